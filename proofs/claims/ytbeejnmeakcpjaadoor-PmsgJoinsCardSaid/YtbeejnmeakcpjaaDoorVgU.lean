/-
  Regions whose order is not told, ended.
-/
import Derived.Test.YtbeejnmeakcpjaaDoorVgR
set_option linter.unusedSimpArgs false
set_option linter.unusedVariables false
namespace Go.VG
open Go

def rc0 : Rc := ⟨none, [], [], pe .undef, 0, [], [], (0, [])⟩

theorem ancAt_eq : ∀ (recs : List Rc) (j : Nat), ancAt recs j = (recs.getD j rc0).anc
  | [], j => by simp [ancAt, rc0]
  | r :: rs, 0 => by simp [ancAt]
  | r :: rs, j + 1 => by simp [ancAt, ancAt_eq rs j]
theorem ancOf_mem' {recs : List Rc} {j : Nat} : ∀ {es : List Edge} {acc : List Nat}, j ∈ ancOf recs es acc → j ∈ acc ∨ ∃ e ∈ es, edgeB e.ground = true ∧ (j = e.on ∨ j ∈ ancAt recs e.on)
  | [], _, h => .inl h
  | ⟨on, gr⟩ :: es, acc, h => by
    simp only [ancOf] at h
    cases hb : edgeB gr with
    | false =>
      rw [hb] at h
      rcases ancOf_mem' (es := es) h with h | ⟨e, h1, h2⟩
      · exact .inl h
      · exact .inr ⟨e, List.mem_cons_of_mem _ h1, h2⟩
    | true =>
      rw [hb, cond_true, forceNs_eq] at h
      rcases ancOf_mem' (es := es) h with h | ⟨e, h1, h2⟩
      · rcases addN_mem.1 (memN_iff.2 h) with h | h
        · exact .inr ⟨⟨on, gr⟩, by simp, hb, by simpa using h⟩
        · exact .inl (memN_iff.1 h)
      · exact .inr ⟨e, List.mem_cons_of_mem _ h1, h2⟩
theorem ancOf_mem {recs : List Rc} {j : Nat} {es : List Edge} (h : j ∈ ancOf recs es []) : ∃ e ∈ es, edgeB e.ground = true ∧ (j = e.on ∨ j ∈ ancAt recs e.on) := by
  rcases ancOf_mem' h with h | h
  · simp at h
  · exact h
theorem edgesLt_mem {i : Nat} : ∀ {es : List Edge}, edgesLt i es = true → ∀ e ∈ es, edgeB e.ground = true → e.on < i
  | [], _, e, h => by simp at h
  | ⟨on, gr⟩ :: es, h, e, he => by
    simp only [edgesLt, Bool.and_eq_true, Bool.or_eq_true, Bool.not_eq_true'] at h
    rcases List.mem_cons.1 he with rfl | he
    · intro hb
      rcases h.1 with h | h
      · exact Nat.le_of_ble_eq_true h
      · rw [h] at hb; cases hb
    · exact edgesLt_mem h.2 e he
theorem indeps_mem {r : Rc} : ∀ {recs : List Rc} {k : Nat}, indeps r recs k = true → ∀ j, j < recs.length → memN (k + j) r.anc = true ∨ indep (recs.getD j rc0) r = true
  | [], _, _, j, h => by simp at h
  | q :: recs, k, h, j, hj => by
    simp only [indeps, Bool.and_eq_true, Bool.or_eq_true] at h
    cases j with
    | zero => simpa using h.1
    | succ j =>
      have := indeps_mem h.2 j (by simpa using hj)
      simpa [Nat.add_assoc, Nat.add_comm 1 j] using this

section
variable {C : Ctx} {E : Env} {st : St} {g : Ghost} {s : AS} {a : Act} {w : World}

/-- what is known of the k-th operation -/
def Fact (ops : List Oper) (f : Nat → Rc) (k : Nat) : Prop := ∃ o, ops[k]? = some o ∧ edgesLt k o.after.toList = true ∧
  (∀ j ∈ (f k).anc, ∃ e ∈ o.after.toList, edgeB e.ground = true ∧ (j = e.on ∨ j ∈ (f e.on).anc)) ∧ ∀ j, j < k → j ∈ (f k).anc ∨ indep (f j) (f k) = true

theorem any_chain {ops : List Oper} {K : AS → Prop} : ∀ (rest : List Oper) (i : Nat) (recs : List Rc) (s : AS), evAny C ops rest i recs s K → recs.length = i → (∀ k, rest[k]? = ops[i + k]?) →
    ∃ new sN, K sN ∧ new.length = rest.length ∧ Chain C ops (fun k => (recs ++ new).getD k rc0) sN (List.range' i rest.length) s ∧ ∀ k, i ≤ k → k < i + rest.length → Fact ops (fun k => (recs ++ new).getD k rc0) k
  | [], i, recs, s, h, hl, _ => ⟨[], s, h, rfl, Eqv.refl s, fun k h1 h2 => by simp at h2; omega⟩
  | o :: rest, i, recs, s, h, hl, hr => by
    simp only [evAny] at h
    obtain ⟨hd, h⟩ := whenK_iff.1 h
    simp only [Bool.and_eq_true] at hd
    have hfn : FnP (stepT C ops s o) := by
      unfold stepT
      split
      · exact evOp_fn _ _ _
      · split
        · exact FnP.fail
        · split
          · have hc : ∀ (c : Bool) (t u : Tr Ef), FnP t → FnP u → FnP (cond c t u) := fun c t u ht hu => by cases c <;> assumption
            exact hc _ _ _ (FnP.brn (evOp_fn _ _ _) (FnP.ret _)) (FnP.brn (FnP.ret _) (evOp_fn _ _ _))
          · exact FnP.ret _
          · exact FnP.fail
    obtain ⟨e, h1, h2⟩ := hfn _ h
    rw [forceEf_eq, forceRc_eq] at h1
    obtain ⟨hi, h1⟩ := whenK_iff.1 h1
    rw [forceL_eq, appK_eq] at h1
    have ho : ops[i]? = some o := by simpa using (hr 0).symm
    obtain ⟨new, sN, k1, k2, k3, k4⟩ := any_chain rest (i + 1) (recs ++ [recOf C ops recs s o e]) (s.app o.dst e) h1 (by simp [hl]) (fun k => by
      have := hr (k + 1)
      rw [List.getElem?_cons_succ] at this
      rw [this]; congr 1; omega)
    have hlist : recs ++ [recOf C ops recs s o e] ++ new = recs ++ (recOf C ops recs s o e :: new) := by simp
    rw [hlist] at k3 k4
    have hfi : (recs ++ (recOf C ops recs s o e :: new)).getD i rc0 = recOf C ops recs s o e := by
      rw [List.getD_eq_getElem?_getD, List.getElem?_append_right (by omega)]; simp [hl]
    have hfj : ∀ j, j < i → (recs ++ (recOf C ops recs s o e :: new)).getD j rc0 = recs.getD j rc0 := fun j hj => by
      rw [List.getD_eq_getElem?_getD, List.getElem?_append_left (by omega), List.getD_eq_getElem?_getD]
    refine ⟨recOf C ops recs s o e :: new, sN, k1, by simp [k2], ?_, fun k hk1 hk2 => ?_⟩
    · rw [List.length_cons, List.range'_succ]
      simp only [Chain]
      refine ⟨o, ho, ?_, ?_⟩
      · rw [hfi]
        exact ⟨h2 _ rfl, rfl, rfl, rfl, .inr rfl, rfl, fun _ => rfl, hd.1⟩
      · rw [hfi]; exact k3
    · rcases Nat.lt_or_ge i k with hlt | hge
      · exact k4 k (by omega) (by rw [List.length_cons] at hk2; omega)
      · have : k = i := by omega
        subst this
        refine ⟨o, ho, hd.2, fun j hj => ?_, fun j hj => ?_⟩
        · simp only at hj
          rw [hfi] at hj
          obtain ⟨ed, q1, q2, q3⟩ := ancOf_mem hj
          refine ⟨ed, q1, q2, ?_⟩
          rcases q3 with q3 | q3
          · exact .inl q3
          · right
            simp only
            rw [ancAt_eq] at q3
            rw [hfj _ (edgesLt_mem hd.2 ed q1 q2)]
            exact q3
        · simp only
          rw [hfi, hfj j hj]
          rcases indeps_mem hi j (by omega) with h | h
          · left; simpa using memN_iff.1 h
          · exact .inr h

theorem Go.eqv {s' : AS} (e : Eqv s s') (R : Rel E st g s a w) (hg : GlobOK C.gl st) : Go C E st g s s' a w :=
  ⟨st, g, ⟨R.nt.trans e.nt, R.df, fun t => by rw [← e.tm, ← e.sg]; exact R.tm t, by rw [← e.sg]; exact R.wr⟩, hg, ⟨fun _ _ _ h => h, fun _ _ _ => rfl, by rw [e.sg]; exact Nat.le_refl _, fun i hi => (e.kl i).1 hi⟩⟩

theorem step_op {ops : Array Oper} {o : Oper} {i : Nat} {e : Ef} (G : GoodG C) (R : Rel E st g s a w) (hg : GlobOK C.gl st) (ho : ops[i]? = some o) (hd : dstOk s o.dst = true) (h : stepT C ops.toList s o (fun b => b = e))
    {next : Act → World → Prop} {Q : Exit → Act → World → Prop} (hn : ∀ a' w', Go C E st g s (s.app o.dst e) a' w' → next a' w') : wpOp C.P ops Q i next a w := by
  have hrun : evOp C s o (fun b => b = e) → o.wp C.P a w next Q := fun h => ev_step R hg hd (s_op R hg G e h) hn
  have hskip : e = pe (.tuple []) → next (a.put o.dst undef) w := fun he => by
    subst he
    exact hn _ _ ⟨st, g, put_undef R hd, hg, Aft.pe⟩
  unfold wpOp
  rw [ho]
  simp only
  unfold stepT at h
  cases hgd : o.guard with
  | none =>
    rw [hgd] at h
    rw [if_pos (by simp [Region.wanted, hgd])]
    exact .inl (hrun h)
  | some p =>
    obtain ⟨j, want⟩ := p
    rw [hgd] at h
    simp only at h
    cases ht : dstAt ops.toList j with
    | none => rw [ht] at h; exact h.elim
    | some t =>
      rw [ht] at h
      simp only at h
      cases hb : lk s.tm t <;> rw [hb] at h <;> try exact h.elim
      rotate_left
      · rename_i l
        cases l with
        | cons _ _ => exact h.elim
        | nil =>
          have hy := yielded_none R ht hb
          rw [if_neg (by simp [Region.wanted, hgd, hy])]
          exact hskip h.symm
      rename_i b
      have hy := yielded_bool R ht hb
      cases b <;> cases want <;> simp only [cond_true, cond_false, brnT, brn] at h
      · rw [if_pos (by simp [Region.wanted, hgd, hy])]; exact .inl (hrun h)
      · rw [if_neg (by simp [Region.wanted, hgd, hy])]; exact hskip h.symm
      · rw [if_neg (by simp [Region.wanted, hgd, hy])]; exact hskip h.symm
      · rw [if_pos (by simp [Region.wanted, hgd, hy])]; exact .inl (hrun h)

/-- the operations that are not done yet -/
def left (n : Nat) (listed : Array Bool) : List Nat := (List.range n).filter fun i => !listed.getD i true
theorem left_sorted (n : Nat) (listed : Array Bool) : (left n listed).Pairwise (· < ·) := List.Pairwise.filter _ List.pairwise_lt_range
theorem left_mem {n : Nat} {listed : Array Bool} {i : Nat} : i ∈ left n listed ↔ i < n ∧ listed.getD i true = false := by
  simp [left]
theorem sorted_split {i : Nat} : ∀ {L : List Nat}, L.Pairwise (· < ·) → i ∈ L → ∃ l1 l2, L = l1 ++ i :: l2 ∧ (∀ j ∈ l1, j < i) ∧ L.filter (fun k => k != i) = l1 ++ l2
  | [], _, h => by simp at h
  | x :: L, hp, h => by
    rw [List.pairwise_cons] at hp
    by_cases e : x = i
    · subst e
      refine ⟨[], L, rfl, by simp, ?_⟩
      rw [List.filter_cons_of_neg (by simp), List.nil_append, List.filter_eq_self]
      intro k hk
      have := hp.1 k hk
      simp; omega
    · have h' : i ∈ L := by
        rcases List.mem_cons.1 h with h | h
        · exact absurd h.symm e
        · exact h
      obtain ⟨l1, l2, h1, h2, h3⟩ := sorted_split hp.2 h'
      refine ⟨x :: l1, l2, by rw [h1]; rfl, fun j hj => ?_, ?_⟩
      · rcases List.mem_cons.1 hj with rfl | hj
        · exact hp.1 i h'
        · exact h2 j hj
      · rw [List.filter_cons_of_pos (by simpa using e), h3]; rfl
theorem getD_set {listed : Array Bool} {i k : Nat} (hi : i < listed.size) : (listed.setIfInBounds i true).getD k true = if k = i then true else listed.getD k true := by
  by_cases h : k = i
  · subst h; simp [Array.getD, hi]
  · rw [if_neg h]
    simp only [Array.getD, Array.size_setIfInBounds]
    split
    · rename_i hk
      exact Array.getElem_setIfInBounds_ne (by simpa using hk) (Ne.symm h)
    · rfl
theorem left_set {n : Nat} {listed : Array Bool} {i : Nat} (hi : i < listed.size) : left n (listed.setIfInBounds i true) = (left n listed).filter (fun k => k != i) := by
  unfold left
  rw [List.filter_filter]
  congr 1
  funext k
  rw [getD_set hi]
  by_cases h : k = i
  · subst h; simp
  · simp [h]

theorem any_sound (G : GoodG C) {ops : Array Oper} {f : Nat → Rc} {sN : AS} {Q : Exit → Act → World → Prop} (hf : ∀ k, k < ops.size → Fact ops.toList f k) :
    ∀ (fuel : Nat) (listed : Array Bool) (s : AS) (st : St) (g : Ghost) (a : Act) (w : World), listed.size = ops.size → (left ops.size listed).length = fuel → Chain C ops.toList f sN (left ops.size listed) s →
      (∀ k, k < ops.size → listed.getD k true = true → ∀ j ∈ (f k).anc, j < ops.size → listed.getD j true = true) → Rel E st g s a w → GlobOK C.gl st → (∀ a' w', Go C E st g s sN a' w' → Q .normal a' w') →
      wpAny C.P .any ops Q fuel listed a w := by
  -- who is ready
  have hready : ∀ (listed : Array Bool) (i : Nat), listed.size = ops.size → i ∈ Region.ready .any ops listed → i ∈ left ops.size listed ∧ ∀ o, ops[i]? = some o → ∀ e ∈ o.after.toList, edgeB e.ground = true → listed.getD e.on false = true := fun listed i _ hi => by
    unfold Region.ready at hi
    rw [List.mem_filter] at hi
    obtain ⟨h1, h2⟩ := hi
    simp only [Bool.and_eq_true, Bool.not_eq_true', List.mem_range] at h1 h2
    refine ⟨left_mem.2 ⟨h1, h2.1⟩, fun o ho e he hb => ?_⟩
    have h3 := h2.2
    rw [ho] at h3
    simp only [Option.map_some, Option.getD_some] at h3
    have h4 := Array.all_eq_true'.1 h3 e (by simpa using he)
    have h5 : Region.binds .any e = true := by
      unfold Region.binds
      obtain ⟨on, gr⟩ := e
      cases gr <;> simp only [edgeB] at hb ⊢ <;> cases hb
    simpa [h5] using h4
  have hready2 : ∀ (listed : Array Bool), listed.size = ops.size → Region.ready .any ops listed = [] → left ops.size listed = [] := fun listed hsz h => by
    cases hL : left ops.size listed with
    | nil => rfl
    | cons i L =>
      exfalso
      have hi : i ∈ left ops.size listed := by rw [hL]; simp
      obtain ⟨hi1, hi2⟩ := left_mem.1 hi
      obtain ⟨o, ho, hlt, _⟩ := hf i hi1
      have ho' : ops[i]? = some o := by rw [← Array.getElem?_toList]; exact ho
      have hmem : i ∈ Region.ready .any ops listed := by
        unfold Region.ready
        rw [List.mem_filter]
        refine ⟨List.mem_range.2 hi1, ?_⟩
        simp only [hi2, ho', Option.map_some, Option.getD_some, Bool.not_false, Bool.true_and]
        refine Array.all_eq_true'.2 fun e he => ?_
        cases hb : Region.binds .any e with
        | false => simp
        | true =>
          have hb' : edgeB e.ground = true := by
            unfold Region.binds at hb
            obtain ⟨on, gr⟩ := e
            cases gr <;> simp only [edgeB] at hb ⊢ <;> first | rfl | cases hb
          have h1 := edgesLt_mem hlt e (by simpa using he) hb'
          have h2 : e.on ∉ left ops.size listed := fun hm => by
            have := left_sorted ops.size listed
            rw [hL, List.pairwise_cons] at this
            rw [hL] at hm
            rcases List.mem_cons.1 hm with rfl | hm
            · omega
            · have := this.1 _ hm; omega
          have h3 : listed.getD e.on true = true := by
            cases h4 : listed.getD e.on true with
            | true => rfl
            | false => exact absurd (left_mem.2 ⟨by omega, h4⟩) h2
          have h5 : listed.getD e.on false = true := by
            have h6 : e.on < listed.size := by omega
            simpa [Array.getD, h6] using h3
          simp [h5]
      rw [h] at hmem
      simp at hmem
  intro fuel
  induction fuel with
  | zero =>
    intro listed s st g a w hsz hlen hch hup R hg hQ
    have hL : left ops.size listed = [] := List.eq_nil_of_length_eq_zero hlen
    rw [hL] at hch
    refine ⟨?_, hQ _ _ (Go.eqv hch R hg)⟩
    cases hr : Region.ready .any ops listed with
    | nil => rfl
    | cons i r =>
      have := (hready listed i hsz (by rw [hr]; simp)).1
      rw [hL] at this
      simp at this
  | succ fuel ih =>
    intro listed s st g a w hsz hlen hch hup R hg hQ
    refine ⟨fun hr => ?_, fun i hi => ?_⟩
    · have hL := hready2 listed hsz hr
      rw [hL] at hch
      exact hQ _ _ (Go.eqv hch R hg)
    · obtain ⟨hi1, hi2⟩ := hready listed i hsz hi
      obtain ⟨hi3, hi4⟩ := left_mem.1 hi1
      obtain ⟨l1, l2, q1, q2, q3⟩ := sorted_split (left_sorted _ _) hi1
      obtain ⟨o, ho, hlt, hanc, hind⟩ := hf i hi3
      have ho' : ops[i]? = some o := by rw [← Array.getElem?_toList]; exact ho
      -- none of who is behind i is left
      have hno : ∀ j ∈ (f i).anc, j < ops.size → listed.getD j true = true := fun j hj hjs => by
        obtain ⟨e, he, hb, hor⟩ := hanc j hj
        have h5 := hi2 o ho' e he hb
        have h6 : e.on < listed.size := by
          rcases Nat.lt_or_ge e.on listed.size with h | h
          · exact h
          · have : ¬ e.on < listed.size := by omega
            simp [Array.getD, this] at h5
        have h7 : listed.getD e.on true = true := by simpa [Array.getD, h6] using h5
        rcases hor with rfl | hor
        · exact h7
        · exact hup e.on (by omega) h7 j hor hjs
      rw [q1] at hch
      obtain ⟨o₂, h1, h2, h3⟩ := hch.front fun j hj => by
        rcases hind j (q2 j hj) with h | h
        · have hjl : j ∈ left ops.size listed := by rw [q1]; exact List.mem_append_left _ hj
          obtain ⟨hj1, hj2⟩ := left_mem.1 hjl
          rw [hno j h hj1] at hj2; cases hj2
        · exact h
      rw [ho] at h1; cases h1
      refine step_op G R hg ho' h2.dok h2.ef fun a' w' hgo => ?_
      obtain ⟨st', g', R', hg', A⟩ := hgo
      have hls : left ops.size (listed.setIfInBounds i true) = l1 ++ l2 := by rw [left_set (by omega), q3]
      refine ih (listed.setIfInBounds i true) _ st' g' a' w' (by simpa using hsz) ?_ ?_ (fun k hk hkl j hj hjs => ?_) R' hg' fun a'' w'' hgo' => hQ _ _ (hgo'.trans A)
      · rw [hls]
        have := congrArg List.length q1
        simp only [List.length_append, List.length_cons] at this ⊢
        omega
      · rw [hls]; exact h3
      · rw [getD_set (by omega)] at hkl ⊢
        by_cases e1 : j = i
        · rw [if_pos e1]
        · rw [if_neg e1]
          by_cases e2 : k = i
          · subst e2; exact hno j hj hjs
          · rw [if_neg e2] at hkl; exact hup k hk hkl j hj hjs

theorem drawn_sound {id : Nat} {ops : Array Oper} (R : Rel E st g s a w) (hg : GlobOK C.gl st) (G : GoodG C) {Q : Exit → Act → World → Prop} {K : AS → Prop} (h : evAny C ops.toList ops.toList 0 [] s K)
    (hK : ∀ s' a' w', K s' → Go C E st g s s' a' w' → Q .normal a' w') : (Code.region id ops true).wp C.P Q a w := by
  obtain ⟨new, sN, h1, h2, h3, h4⟩ := any_chain ops.toList 0 [] s h rfl (fun k => by rw [Nat.zero_add])
  have hl : left ops.size (Array.replicate ops.size false) = List.range' 0 ops.toList.length := by
    unfold left
    rw [← List.range_eq_range', Array.length_toList, List.filter_eq_self]
    intro i hi
    have : i < ops.size := List.mem_range.1 hi
    simp [Array.getD, this]
  refine wp_region_any G.hm ?_
  refine any_sound (sN := sN) G (fun k hk => h4 k (Nat.zero_le _) (by simpa using hk)) ops.size (Array.replicate ops.size false) s st g a _ (by simp) ?_ ?_ (fun k hk hkl => ?_) ⟨R.nt, R.df, R.tm, R.wr.same ⟨rfl, rfl, rfl, rfl⟩⟩ hg fun a' w' hgo => hK _ _ _ h1 hgo
  · rw [hl]; simp
  · rw [hl]; exact h3
  · simp [Array.getD, hk] at hkl
end
end Go.VG
namespace Go.VG
open Go

/-- two states that tell the same -/
structure LEq (s t : AS) : Prop where
  nt : s.nt = t.nt
  tm : ∀ u, lk s.tm u = lk t.tm u
  sg : s.sg = t.sg
  kl : s.kl = t.kl

section
variable {C : Ctx} {E : Env} {st : St} {g : Ghost} {s t : AS} {a : Act} {w : World} {o : Oper} {e : Ef}
theorem LEq.refl (s : AS) : LEq s s := ⟨rfl, fun _ => rfl, rfl, rfl⟩
theorem LEq.ev (h : LEq s t) (x : Operand) : s.ev C x = t.ev C x := by
  cases x with
  | tmp u => exact h.tm u
  | _ => rfl
theorem LEq.app (h : LEq s t) (d : Option Nat) (e : Ef) : LEq (s.app d e) (t.app d e) := by
  refine ⟨h.nt, fun u => ?_, ?_, ?_⟩
  · cases d with
    | none => simp only [AS.app, lk_killIf, h.tm]
    | some d =>
      simp only [AS.app, lk]
      cases Nat.beq d u with
      | true => rfl
      | false => simp only [cond_false, lk_killIf, h.tm]
  · simp only [AS.app, h.sg]
  · simp only [AS.app, h.kl]
theorem LEq.lit (h : LEq s t) {u : Nat} {b : Bool} (hb : lk s.tm u = .bool b) : LEq ⟨s.nt, (u, .bool b) :: s.tm, s.sg, s.kl⟩ t := by
  refine ⟨h.nt, fun v => ?_, h.sg, h.kl⟩
  simp only [lk]
  cases hv : Nat.beq u v with
  | true =>
    have := Nat.eq_of_beq_eq_true hv
    subst this
    rw [← h.tm, hb]; rfl
  | false => exact h.tm v
theorem LEq.recs (h : LEq s t) (ops : List Oper) (recs : List Rc) (o : Oper) (e : Ef) : recOf C ops recs s o e = recOf C ops recs t o e := by
  unfold recOf
  rw [h.sg, evs_same (fun x _ => h.ev x)]

theorem stepL_T {ops : List Oper} {K1 : Ef → AS → Prop} {K2 : Ef → Prop} (h : stepL C ops s o K1) (hs : LEq s t) (hk : ∀ e s', LEq s' t → K1 e s' → K2 e) : stepT C ops t o K2 := by
  have key : ∀ s', LEq s' t → (evOp C s' o fun e => K1 e s') → evOp C t o K2 := fun s' hl h1 => by
    rw [evOp_same (s := t) (s' := s') (fun x _ => hl.ev x) hl.sg] at h1
    obtain ⟨a, h2, h3⟩ := evOp_fn C t o _ h1
    exact h3 _ (hk a s' hl h2)
  unfold stepL at h
  unfold stepT
  cases hg : o.guard with
  | none => rw [hg] at h; exact key s hs h
  | some p =>
    obtain ⟨j, want⟩ := p
    rw [hg] at h
    simp only at h ⊢
    cases hd : dstAt ops j with
    | none => rw [hd] at h; exact h.elim
    | some u =>
      rw [hd] at h
      simp only at h ⊢
      cases hl : lk s.tm u <;> rw [hl] at h <;> (try simp only at h) <;> try (exact h.elim)
      rotate_left
      · rename_i l
        cases l with
        | cons _ _ => exact h.elim
        | nil =>
          rw [← hs.tm u, hl]
          exact hk _ _ hs h
      rename_i b
      rw [← hs.tm u, hl]
      simp only
      obtain ⟨nt, tm, sg, kl⟩ := s
      cases want <;> cases b <;> simp only [cond_true, cond_false, brn, litk] at h <;> simp only [cond_true, cond_false, brnT, brn]
      · exact key _ (hs.lit hl) h
      · exact hk _ _ (hs.lit hl) h
      · exact hk _ _ (hs.lit hl) h
      · exact key _ (hs.lit hl) h

theorem evAnyL_any {ops : List Oper} {K : AS → Prop} : ∀ (rest : List Oper) (i : Nat) (recs : List Rc) (s t : AS), LEq s t → evAnyL C ops rest i recs s K → evAny C ops rest i recs t fun x => ∃ y, LEq y x ∧ K y
  | [], _, _, s, t, hs, h => ⟨s, hs, h⟩
  | o :: rest, i, recs, s, t, hs, h => by
    simp only [evAnyL, forceEf_eq, forceRc_eq, forceL_eq, appK_eq] at h
    simp only [evAny, forceEf_eq, forceRc_eq, forceL_eq, appK_eq]
    have hd : dstOk s o.dst = dstOk t o.dst := by unfold dstOk; rw [hs.nt]
    rw [hd] at h
    cases hw : (dstOk t o.dst && edgesLt i o.after.toList) with
    | false => rw [hw] at h; exact h.elim
    | true =>
      rw [hw] at h
      have h : stepL C ops s o (fun e s => whenK (indeps (recOf C ops recs s o e) recs 0) (evAnyL C ops rest (i + 1) (recs ++ [recOf C ops recs s o e]) (s.app o.dst e) K)) := h
      refine stepL_T h hs fun e s' hl hk => ?_
      rw [hl.recs] at hk
      cases hi : indeps (recOf C ops recs t o e) recs 0 with
      | false => rw [hi] at hk; exact hk.elim
      | true =>
        rw [hi] at hk
        exact evAnyL_any rest (i + 1) _ _ _ (hl.app o.dst e) hk

theorem Rel.leq (R : Rel E st g t a w) (h : LEq s t) : Rel E st g s a w where
  nt := by rw [h.nt]; exact R.nt
  df := R.df
  tm := fun u => by rw [h.tm, h.sg]; exact R.tm u
  wr := by rw [h.sg]; exact R.wr

theorem drawnL_sound {id : Nat} {ops : Array Oper} (R : Rel E st g s a w) (hg : GlobOK C.gl st) (G : GoodG C) {Q : Exit → Act → World → Prop} {K : AS → Prop} (h : evAnyL C ops.toList ops.toList 0 [] s K)
    (hK : ∀ s' a' w', K s' → Go C E st g s s' a' w' → Q .normal a' w') : (Code.region id ops true).wp C.P Q a w :=
  drawn_sound R hg G (evAnyL_any _ _ _ _ _ (LEq.refl s) h) fun s' a' w' ⟨y, hy, hk⟩ ⟨st', g', R', hg', A⟩ => hK y a' w' hk ⟨st', g', R'.leq hy, hg', { mono := A.mono, keep := fun i hi hm => A.keep i hi (by rw [← hy.kl]; exact hm), len := by rw [hy.sg]; exact A.len, kl := fun i hi => by rw [hy.kl]; exact A.kl i hi }⟩
end
end Go.VG
