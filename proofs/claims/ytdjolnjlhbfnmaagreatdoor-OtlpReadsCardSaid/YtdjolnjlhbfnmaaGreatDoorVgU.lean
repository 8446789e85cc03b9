/-
  A part of the proof.
-/
import Derived.Test.YtdjolnjlhbfnmaaGreatDoorVgR
set_option linter.unusedSimpArgs false
set_option linter.unusedVariables false
namespace Go.VG
open Go

def lV : Rc := ⟨none, [], [], pe .undef, 0, [], [], (0, [])⟩

theorem Ah : ∀ (bh : List Rc) (j : Nat), lZ bh j = (bh.getD j lV).anc
 | [], j => by simp [lZ, lV]
 | r :: rs, 0 => by simp [lZ]
 | r :: rs, j + 1 => by simp [lZ, Ah rs j]
theorem vM {bh : List Rc} {j : Nat} : ∀ {es : List Edge} {acc : List Nat}, j ∈ oX bh es acc → j ∈ acc ∨ ∃ e ∈ es, dW e.ground = true ∧ (j = e.on ∨ j ∈ lZ bh e.on)
 | [], _, h => .inl h
 | ⟨on, gr⟩ :: es, acc, h => by
   simp only [oX] at h
   cases hb : dW gr with
   | false =>
     rw [hb] at h
     rcases vM (es := es) h with h | ⟨e, h1, h2⟩
     . exact .inl h
     . exact .inr ⟨e, List.mem_cons_of_mem _ h1, h2⟩
   | true =>
     rw [hb, cond_true, mI] at h
     rcases vM (es := es) h with h | ⟨e, h1, h2⟩
     . rcases gK.1 (ji.2 h) with h | h
       . exact .inr ⟨⟨on, gr⟩, by simp, hb, by simpa using h⟩
       . exact .inl (ji.1 h)
     . exact .inr ⟨e, List.mem_cons_of_mem _ h1, h2⟩
theorem Fo {bh : List Rc} {j : Nat} {es : List Edge} (h : j ∈ oX bh es []) : ∃ e ∈ es, dW e.ground = true ∧ (j = e.on ∨ j ∈ lZ bh e.on) := by
 rcases vM h with h | h
 . simp at h
 . exact h
theorem pf {i : Nat} : ∀ {es : List Edge}, ll i es = true → ∀ e ∈ es, dW e.ground = true → e.on < i
 | [], _, e, h => by simp at h
 | ⟨on, gr⟩ :: es, h, e, he => by
   simp only [ll, Bool.and_eq_true, Bool.or_eq_true, Bool.not_eq_true'] at h
   rcases List.mem_cons.1 he with rfl | he
   . intro hb
     rcases h.1 with h | h
     . exact Nat.le_of_ble_eq_true h
     . rw [h] at hb; cases hb
   . exact pf h.2 e he
theorem BU {r : Rc} : ∀ {bh : List Rc} {k : Nat}, og r bh k = true → ∀ j, j < bh.length → aP (k + j) r.anc = true ∨ indep (bh.getD j lV) r = true
 | [], _, _, j, h => by simp at h
 | q :: bh, k, h, j, hj => by
   simp only [og, Bool.and_eq_true, Bool.or_eq_true] at h
   cases j with
   | zero => simpa using h.1
   | succ j =>
     have := BU h.2 j (by simpa using hj)
     simpa [Nat.add_assoc, Nat.add_comm 1 j] using this

section
variable {C : Ctx} {E : Env} {st : St} {g : ay} {s : AS} {a : Act} {w : World}

def Fact (ops : List Oper) (f : Nat → Rc) (k : Nat) : Prop := ∃ o, ops[k]? = some o ∧ ll k o.after.toList = true ∧
 (∀ j ∈ (f k).anc, ∃ e ∈ o.after.toList, dW e.ground = true ∧ (j = e.on ∨ j ∈ (f e.on).anc)) ∧ ∀ j, j < k → j ∈ (f k).anc ∨ indep (f j) (f k) = true

theorem ta {ops : List Oper} {K : AS → Prop} : ∀ (rest : List Oper) (i : Nat) (bh : List Rc) (s : AS), pk C ops rest i bh s K → bh.length = i → (∀ k, rest[k]? = ops[i + k]?) →
   ∃ new sN, K sN ∧ new.length = rest.length ∧ gI C ops (fun k => (bh ++ new).getD k lV) sN (List.range' i rest.length) s ∧ ∀ k, i ≤ k → k < i + rest.length → Fact ops (fun k => (bh ++ new).getD k lV) k
 | [], i, bh, s, h, hl, _ => ⟨[], s, h, rfl, eV.refl s, fun k h1 h2 => by simp at h2; omega⟩
 | o :: rest, i, bh, s, h, hl, hr => by
   simp only [pk] at h
   obtain ⟨hd, h⟩ := nz.1 h
   simp only [Bool.and_eq_true] at hd
   have hfn : ab (stepT C ops s o) := by
    unfold stepT
    split
    . exact pA _ _ _
    . split
      . exact ab.fail
      . split
        . have hc : ∀ (c : Bool) (t u : Tr Ef), ab t → ab u → ab (cond c t u) := fun c t u ht hu => by cases c <;> assumption
          exact hc _ _ _ (ab.c8 (pA _ _ _) (ab.ret _)) (ab.c8 (ab.ret _) (pA _ _ _))
        . exact ab.ret _
        . exact ab.fail
   obtain ⟨e, h1, h2⟩ := hfn _ h
   rw [iq, wk] at h1
   obtain ⟨hi, h1⟩ := nz.1 h1
   rw [rm, eE] at h1
   have ho : ops[i]? = some o := by simpa using (hr 0).symm
   obtain ⟨new, sN, k1, k2, k3, k4⟩ := ta rest (i + 1) (bh ++ [hZ C ops bh s o e]) (s.app o.dst e) h1 (by simp [hl]) (fun k => by
    have := hr (k + 1)
    rw [List.getElem?_cons_succ] at this
    rw [this]; congr 1; omega)
   have hlist : bh ++ [hZ C ops bh s o e] ++ new = bh ++ (hZ C ops bh s o e :: new) := by simp
   rw [hlist] at k3 k4
   have hfi : (bh ++ (hZ C ops bh s o e :: new)).getD i lV = hZ C ops bh s o e := by
    rw [List.getD_eq_getElem?_getD, List.getElem?_append_right (by omega)]; simp [hl]
   have hfj : ∀ j, j < i → (bh ++ (hZ C ops bh s o e :: new)).getD j lV = bh.getD j lV := fun j hj => by
    rw [List.getD_eq_getElem?_getD, List.getElem?_append_left (by omega), List.getD_eq_getElem?_getD]
   refine ⟨hZ C ops bh s o e :: new, sN, k1, by simp [k2], ?_, fun k hk1 hk2 => ?_⟩
   . rw [List.length_cons, List.range'_succ]
     simp only [gI]
     refine ⟨o, ho, ?_, ?_⟩
     . rw [hfi]
       exact ⟨h2 _ rfl, rfl, rfl, rfl, .inr rfl, rfl, fun _ => rfl, hd.1⟩
     . rw [hfi]; exact k3
   . rcases Nat.lt_or_ge i k with hlt | hge
     . exact k4 k (by omega) (by rw [List.length_cons] at hk2; omega)
     . have : k = i := by omega
       subst this
       refine ⟨o, ho, hd.2, fun j hj => ?_, fun j hj => ?_⟩
       . simp only at hj
         rw [hfi] at hj
         obtain ⟨ed, q1, q2, q3⟩ := Fo hj
         refine ⟨ed, q1, q2, ?_⟩
         rcases q3 with q3 | q3
         . exact .inl q3
         . right
           simp only
           rw [Ah] at q3
           rw [hfj _ (pf hd.2 ed q1 q2)]
           exact q3
       . simp only
         rw [hfi, hfj j hj]
         rcases BU hi j (by omega) with h | h
         . left; simpa using ji.1 h
         . exact .inr h

theorem Go.eqv {s' : AS} (e : eV s s') (R : Rel E st g s a w) (hg : aW C.gl st) : Go C E st g s s' a w :=
 ⟨st, g, ⟨R.nt.trans e.nt, R.df, fun t => by rw [← e.tm, ← e.sg]; exact R.tm t, by rw [← e.sg]; exact R.wr⟩, hg, ⟨fun _ _ _ h => h, fun _ _ _ => rfl, by rw [e.sg]; exact Nat.le_refl _, fun i hi => (e.kl i).1 hi⟩⟩

theorem EE {ops : Array Oper} {o : Oper} {i : Nat} {e : Ef} (G : cH C) (R : Rel E st g s a w) (hg : aW C.gl st) (ho : ops[i]? = some o) (hd : dD s o.dst = true) (h : stepT C ops.toList s o (fun b => b = e))
   {next : Act → World → Prop} {Q : Exit → Act → World → Prop} (hn : ∀ a' w', Go C E st g s (s.app o.dst e) a' w' → next a' w') : wpOp C.P ops Q i next a w := by
 have hrun : cr C s o (fun b => b = e) → o.wp C.P a w next Q := fun h => pD R hg hd (s_op R hg G e h) hn
 have hskip : e = pe (.tuple []) → next (a.put o.dst undef) w := fun he => by
  subst he
  exact hn _ _ ⟨st, g, sb R hd, hg, bV.pe⟩
 unfold wpOp
 rw [ho]
 simp only
 unfold stepT at h
 cases hgd : o.guard with
 | none =>
   rw [hgd] at h
   rw [if_pos (by simp [Region.wanted, hgd])]
   exact .inl (hrun h)
 | some p =>
   obtain ⟨j, want⟩ := p
   rw [hgd] at h
   simp only at h
   cases ht : cq ops.toList j with
   | none => rw [ht] at h; exact h.elim
   | some t =>
     rw [ht] at h
     simp only at h
     cases hb : lk s.tm t <;> rw [hb] at h <;> try exact h.elim
     rotate_left
     . rename_i l
       cases l with
       | cons _ _ => exact h.elim
       | nil =>
         have hy := A1 R ht hb
         rw [if_neg (by simp [Region.wanted, hgd, hy])]
         exact hskip h.symm
     rename_i b
     have hy := zZ R ht hb
     cases b <;> cases want <;> simp only [cond_true, cond_false, jD, c8] at h
     . rw [if_pos (by simp [Region.wanted, hgd, hy])]; exact .inl (hrun h)
     . rw [if_neg (by simp [Region.wanted, hgd, hy])]; exact hskip h.symm
     . rw [if_neg (by simp [Region.wanted, hgd, hy])]; exact hskip h.symm
     . rw [if_pos (by simp [Region.wanted, hgd, hy])]; exact .inl (hrun h)

def left (n : Nat) (listed : Array Bool) : List Nat := (List.range n).filter fun i => !listed.getD i true
theorem rN (n : Nat) (listed : Array Bool) : (left n listed).Pairwise (· < ·) := List.Pairwise.filter _ List.pairwise_lt_range
theorem fh {n : Nat} {listed : Array Bool} {i : Nat} : i ∈ left n listed ↔ i < n ∧ listed.getD i true = false := by
 simp [left]
theorem vi {i : Nat} : ∀ {L : List Nat}, L.Pairwise (· < ·) → i ∈ L → ∃ l1 l2, L = l1 ++ i :: l2 ∧ (∀ j ∈ l1, j < i) ∧ L.filter (fun k => k != i) = l1 ++ l2
 | [], _, h => by simp at h
 | x :: L, hp, h => by
   rw [List.pairwise_cons] at hp
   by_cases e : x = i
   . subst e
     refine ⟨[], L, rfl, by simp, ?_⟩
     rw [List.filter_cons_of_neg (by simp), List.nil_append, List.filter_eq_self]
     intro k hk
     have := hp.1 k hk
     simp; omega
   . have h' : i ∈ L := by
       rcases List.mem_cons.1 h with h | h
       . exact absurd h.symm e
       . exact h
     obtain ⟨l1, l2, h1, h2, h3⟩ := vi hp.2 h'
     refine ⟨x :: l1, l2, by rw [h1]; rfl, fun j hj => ?_, ?_⟩
     . rcases List.mem_cons.1 hj with rfl | hj
       . exact hp.1 i h'
       . exact h2 j hj
     . rw [List.filter_cons_of_pos (by simpa using e), h3]; rfl
theorem mK {listed : Array Bool} {i k : Nat} (hi : i < listed.size) : (listed.setIfInBounds i true).getD k true = if k = i then true else listed.getD k true := by
 by_cases h : k = i
 . subst h; simp [Array.getD, hi]
 . rw [if_neg h]
   simp only [Array.getD, Array.size_setIfInBounds]
   split
   . rename_i hk
     exact Array.getElem_setIfInBounds_ne (by simpa using hk) (Ne.symm h)
   . rfl
theorem xb {n : Nat} {listed : Array Bool} {i : Nat} (hi : i < listed.size) : left n (listed.setIfInBounds i true) = (left n listed).filter (fun k => k != i) := by
 unfold left
 rw [List.filter_filter]
 congr 1
 funext k
 rw [mK hi]
 by_cases h : k = i
 . subst h; simp
 . simp [h]

theorem Fq (G : cH C) {ops : Array Oper} {f : Nat → Rc} {sN : AS} {Q : Exit → Act → World → Prop} (hf : ∀ k, k < ops.size → Fact ops.toList f k) :
    ∀ (fuel : Nat) (listed : Array Bool) (s : AS) (st : St) (g : ay) (a : Act) (w : World), listed.size = ops.size → (left ops.size listed).length = fuel → gI C ops.toList f sN (left ops.size listed) s →
     (∀ k, k < ops.size → listed.getD k true = true → ∀ j ∈ (f k).anc, j < ops.size → listed.getD j true = true) → Rel E st g s a w → aW C.gl st → (∀ a' w', Go C E st g s sN a' w' → Q .normal a' w') →
     wpAny C.P .any ops Q fuel listed a w := by
  -- who is ready
  have hready : ∀ (listed : Array Bool) (i : Nat), listed.size = ops.size → i ∈ Region.ready .any ops listed → i ∈ left ops.size listed ∧ ∀ o, ops[i]? = some o → ∀ e ∈ o.after.toList, dW e.ground = true → listed.getD e.on false = true := fun listed i _ hi => by
   unfold Region.ready at hi
   rw [List.mem_filter] at hi
   obtain ⟨h1, h2⟩ := hi
   simp only [Bool.and_eq_true, Bool.not_eq_true', List.mem_range] at h1 h2
   refine ⟨fh.2 ⟨h1, h2.1⟩, fun o ho e he hb => ?_⟩
   have h3 := h2.2
   rw [ho] at h3
   simp only [Option.map_some, Option.getD_some] at h3
   have h4 := Array.all_eq_true'.1 h3 e (by simpa using he)
   have h5 : Region.binds .any e = true := by
    unfold Region.binds
    obtain ⟨on, gr⟩ := e
    cases gr <;> simp only [dW] at hb ⊢ <;> cases hb
   simpa [h5] using h4
  have hready2 : ∀ (listed : Array Bool), listed.size = ops.size → Region.ready .any ops listed = [] → left ops.size listed = [] := fun listed hsz h => by
   cases hL : left ops.size listed with
   | nil => rfl
   | cons i L =>
     exfalso
     have hi : i ∈ left ops.size listed := by rw [hL]; simp
     obtain ⟨hi1, hi2⟩ := fh.1 hi
     obtain ⟨o, ho, hlt, _⟩ := hf i hi1
     have ho' : ops[i]? = some o := by rw [← Array.getElem?_toList]; exact ho
     have hmem : i ∈ Region.ready .any ops listed := by
      unfold Region.ready
      rw [List.mem_filter]
      refine ⟨List.mem_range.2 hi1, ?_⟩
      simp only [hi2, ho', Option.map_some, Option.getD_some, Bool.not_false, Bool.true_and]
      refine Array.all_eq_true'.2 fun e he => ?_
      cases hb : Region.binds .any e with
      | false => simp
      | true =>
        have hb' : dW e.ground = true := by
         unfold Region.binds at hb
         obtain ⟨on, gr⟩ := e
         cases gr <;> simp only [dW] at hb ⊢ <;> first | rfl | cases hb
        have h1 := pf hlt e (by simpa using he) hb'
        have h2 : e.on ∉ left ops.size listed := fun hm => by
         have := rN ops.size listed
         rw [hL, List.pairwise_cons] at this
         rw [hL] at hm
         rcases List.mem_cons.1 hm with rfl | hm
         . omega
         . have := this.1 _ hm; omega
        have h3 : listed.getD e.on true = true := by
         cases h4 : listed.getD e.on true with
         | true => rfl
         | false => exact absurd (fh.2 ⟨by omega, h4⟩) h2
        have h5 : listed.getD e.on false = true := by
         have h6 : e.on < listed.size := by omega
         simpa [Array.getD, h6] using h3
        simp [h5]
     rw [h] at hmem
     simp at hmem
  intro fuel
  induction fuel with
  | zero =>
    intro listed s st g a w hsz hlen hch hup R hg hQ
    have hL : left ops.size listed = [] := List.eq_nil_of_length_eq_zero hlen
    rw [hL] at hch
    refine ⟨?_, hQ _ _ (Go.eqv hch R hg)⟩
    cases hr : Region.ready .any ops listed with
    | nil => rfl
    | cons i r =>
      have := (hready listed i hsz (by rw [hr]; simp)).1
      rw [hL] at this
      simp at this
  | succ fuel ih =>
    intro listed s st g a w hsz hlen hch hup R hg hQ
    refine ⟨fun hr => ?_, fun i hi => ?_⟩
    . have hL := hready2 listed hsz hr
      rw [hL] at hch
      exact hQ _ _ (Go.eqv hch R hg)
    . obtain ⟨hi1, hi2⟩ := hready listed i hsz hi
      obtain ⟨hi3, hi4⟩ := fh.1 hi1
      obtain ⟨l1, l2, q1, q2, q3⟩ := vi (rN _ _) hi1
      obtain ⟨o, ho, hlt, hanc, hind⟩ := hf i hi3
      have ho' : ops[i]? = some o := by rw [← Array.getElem?_toList]; exact ho
      -- none of who is behind i is left
      have hno : ∀ j ∈ (f i).anc, j < ops.size → listed.getD j true = true := fun j hj hjs => by
       obtain ⟨e, he, hb, hor⟩ := hanc j hj
       have h5 := hi2 o ho' e he hb
       have h6 : e.on < listed.size := by
        rcases Nat.lt_or_ge e.on listed.size with h | h
        . exact h
        . have : ¬ e.on < listed.size := by omega
          simp [Array.getD, this] at h5
       have h7 : listed.getD e.on true = true := by simpa [Array.getD, h6] using h5
       rcases hor with rfl | hor
       . exact h7
       . exact hup e.on (by omega) h7 j hor hjs
      rw [q1] at hch
      obtain ⟨o₂, h1, h2, h3⟩ := hch.front fun j hj => by
       rcases hind j (q2 j hj) with h | h
       . have hjl : j ∈ left ops.size listed := by rw [q1]; exact List.mem_append_left _ hj
         obtain ⟨hj1, hj2⟩ := fh.1 hjl
         rw [hno j h hj1] at hj2; cases hj2
       . exact h
      rw [ho] at h1; cases h1
      refine EE G R hg ho' h2.dok h2.ef fun a' w' hgo => ?_
      obtain ⟨st', g', R', hg', A⟩ := hgo
      have hls : left ops.size (listed.setIfInBounds i true) = l1 ++ l2 := by rw [xb (by omega), q3]
      refine ih (listed.setIfInBounds i true) _ st' g' a' w' (by simpa using hsz) ?_ ?_ (fun k hk hkl j hj hjs => ?_) R' hg' fun a'' w'' hgo' => hQ _ _ (hgo'.trans A)
      . rw [hls]
        have := congrArg List.length q1
        simp only [List.length_append, List.length_cons] at this ⊢
        omega
      . rw [hls]; exact h3
      . rw [mK (by omega)] at hkl ⊢
        by_cases e1 : j = i
        . rw [if_pos e1]
        . rw [if_neg e1]
          by_cases e2 : k = i
          . subst e2; exact hno j hj hjs
          . rw [if_neg e2] at hkl; exact hup k hk hkl j hj hjs

theorem G0 {id : Nat} {ops : Array Oper} (R : Rel E st g s a w) (hg : aW C.gl st) (G : cH C) {Q : Exit → Act → World → Prop} {K : AS → Prop} (h : pk C ops.toList ops.toList 0 [] s K)
   (hK : ∀ s' a' w', K s' → Go C E st g s s' a' w' → Q .normal a' w') : (Code.region id ops true).wp C.P Q a w := by
 obtain ⟨new, sN, h1, h2, h3, h4⟩ := ta ops.toList 0 [] s h rfl (fun k => by rw [Nat.zero_add])
 have hl : left ops.size (Array.replicate ops.size false) = List.range' 0 ops.toList.length := by
  unfold left
  rw [← List.range_eq_range', Array.length_toList, List.filter_eq_self]
  intro i hi
  have : i < ops.size := List.mem_range.1 hi
  simp [Array.getD, this]
 refine wp_region_any G.hm ?_
 refine Fq (sN := sN) G (fun k hk => h4 k (Nat.zero_le _) (by simpa using hk)) ops.size (Array.replicate ops.size false) s st g a _ (by simp) ?_ ?_ (fun k hk hkl => ?_) ⟨R.nt, R.df, R.tm, R.wr.same ⟨rfl, rfl, rfl, rfl⟩⟩ hg fun a' w' hgo => hK _ _ _ h1 hgo
 . rw [hl]; simp
 . rw [hl]; exact h3
 . simp [Array.getD, hk] at hkl
end
end Go.VG
namespace Go.VG
open Go

structure eA (s t : AS) : Prop where
 nt : s.nt = t.nt
 tm : ∀ u, lk s.tm u = lk t.tm u
 sg : s.sg = t.sg
 kl : s.kl = t.kl

section
variable {C : Ctx} {E : Env} {st : St} {g : ay} {s t : AS} {a : Act} {w : World} {o : Oper} {e : Ef}
theorem eA.refl (s : AS) : eA s s := ⟨rfl, fun _ => rfl, rfl, rfl⟩
theorem eA.ev (h : eA s t) (x : Operand) : s.ev C x = t.ev C x := by
 cases x with
 | tmp u => exact h.tm u
 | _ => rfl
theorem eA.app (h : eA s t) (d : Option Nat) (e : Ef) : eA (s.app d e) (t.app d e) := by
 refine ⟨h.nt, fun u => ?_, ?_, ?_⟩
 . cases d with
   | none => simp only [AS.app, lP, h.tm]
   | some d =>
     simp only [AS.app, lk]
     cases Nat.beq d u with
     | true => rfl
     | false => simp only [cond_false, lP, h.tm]
 . simp only [AS.app, h.sg]
 . simp only [AS.app, h.kl]
theorem eA.lit (h : eA s t) {u : Nat} {b : Bool} (hb : lk s.tm u = .bool b) : eA ⟨s.nt, (u, .bool b) :: s.tm, s.sg, s.kl⟩ t := by
 refine ⟨h.nt, fun v => ?_, h.sg, h.kl⟩
 simp only [lk]
 cases hv : Nat.beq u v with
 | true =>
   have := Nat.eq_of_beq_eq_true hv
   subst this
   rw [← h.tm, hb]; rfl
 | false => exact h.tm v
theorem eA.bh (h : eA s t) (ops : List Oper) (bh : List Rc) (o : Oper) (e : Ef) : hZ C ops bh s o e = hZ C ops bh t o e := by
 unfold hZ
 rw [h.sg, kC (fun x _ => h.ev x)]

theorem OZ {ops : List Oper} {K1 : Ef → AS → Prop} {K2 : Ef → Prop} (h : vj C ops s o K1) (hs : eA s t) (hk : ∀ e s', eA s' t → K1 e s' → K2 e) : stepT C ops t o K2 := by
 have key : ∀ s', eA s' t → (cr C s' o fun e => K1 e s') → cr C t o K2 := fun s' hl h1 => by
  rw [w8 (s := t) (s' := s') (fun x _ => hl.ev x) hl.sg] at h1
  obtain ⟨a, h2, h3⟩ := pA C t o _ h1
  exact h3 _ (hk a s' hl h2)
 unfold vj at h
 unfold stepT
 cases hg : o.guard with
 | none => rw [hg] at h; exact key s hs h
 | some p =>
   obtain ⟨j, want⟩ := p
   rw [hg] at h
   simp only at h ⊢
   cases hd : cq ops j with
   | none => rw [hd] at h; exact h.elim
   | some u =>
     rw [hd] at h
     simp only at h ⊢
     cases hl : lk s.tm u <;> rw [hl] at h <;> (try simp only at h) <;> try (exact h.elim)
     rotate_left
     . rename_i l
       cases l with
       | cons _ _ => exact h.elim
       | nil =>
         rw [← hs.tm u, hl]
         exact hk _ _ hs h
     rename_i b
     rw [← hs.tm u, hl]
     simp only
     obtain ⟨nt, tm, sg, kl⟩ := s
     cases want <;> cases b <;> simp only [cond_true, cond_false, c8, rP] at h <;> simp only [cond_true, cond_false, jD, c8]
     . exact key _ (hs.lit hl) h
     . exact hk _ _ (hs.lit hl) h
     . exact hk _ _ (hs.lit hl) h
     . exact key _ (hs.lit hl) h

theorem tG {ops : List Oper} {K : AS → Prop} : ∀ (rest : List Oper) (i : Nat) (bh : List Rc) (s t : AS), eA s t → kz C ops rest i bh s K → pk C ops rest i bh t fun x => ∃ y, eA y x ∧ K y
 | [], _, _, s, t, hs, h => ⟨s, hs, h⟩
 | o :: rest, i, bh, s, t, hs, h => by
   simp only [kz, iq, wk, rm, eE] at h
   simp only [pk, iq, wk, rm, eE]
   have hd : dD s o.dst = dD t o.dst := by unfold dD; rw [hs.nt]
   rw [hd] at h
   cases hw : (dD t o.dst && ll i o.after.toList) with
   | false => rw [hw] at h; exact h.elim
   | true =>
     rw [hw] at h
     have h : vj C ops s o (fun e s => ic (og (hZ C ops bh s o e) bh 0) (kz C ops rest (i + 1) (bh ++ [hZ C ops bh s o e]) (s.app o.dst e) K)) := h
     refine OZ h hs fun e s' hl hk => ?_
     rw [hl.bh] at hk
     cases hi : og (hZ C ops bh t o e) bh 0 with
     | false => rw [hi] at hk; exact hk.elim
     | true =>
       rw [hi] at hk
       exact tG rest (i + 1) _ _ _ (hl.app o.dst e) hk

theorem Rel.leq (R : Rel E st g t a w) (h : eA s t) : Rel E st g s a w where
 nt := by rw [h.nt]; exact R.nt
 df := R.df
 tm := fun u => by rw [h.tm, h.sg]; exact R.tm u
 wr := by rw [h.sg]; exact R.wr

theorem FW {id : Nat} {ops : Array Oper} (R : Rel E st g s a w) (hg : aW C.gl st) (G : cH C) {Q : Exit → Act → World → Prop} {K : AS → Prop} (h : kz C ops.toList ops.toList 0 [] s K)
   (hK : ∀ s' a' w', K s' → Go C E st g s s' a' w' → Q .normal a' w') : (Code.region id ops true).wp C.P Q a w :=
 G0 R hg G (tG _ _ _ _ _ (eA.refl s) h) fun s' a' w' ⟨y, hy, hk⟩ ⟨st', g', R', hg', A⟩ => hK y a' w' hk ⟨st', g', R'.leq hy, hg', { mono := A.mono, bm := fun i hi hm => A.bm i hi (by rw [← hy.kl]; exact hm), len := by rw [hy.sg]; exact A.len, kl := fun i hi => by rw [hy.kl]; exact A.kl i hi }⟩
end
end Go.VG
namespace Go.VG
open Go

theorem rZ {j : Nat} : ∀ {es : List Edge}, j ∈ iv es ↔ ∃ e ∈ es, dW e.ground = true ∧ e.on = j
 | [] => by simp [iv]
 | ⟨on, gr⟩ :: es => by
   simp only [iv]
   cases hb : dW gr with
   | true =>
     simp only [cond_true, List.mem_cons, rZ (es := es)]
     constructor
     . rintro (rfl | ⟨e, h1, h2⟩)
       . exact ⟨_, .inl rfl, hb, rfl⟩
       . exact ⟨e, .inr h1, h2⟩
     . rintro ⟨e, rfl | h1, h2, h3⟩
       . exact .inl h3.symm
       . exact .inr ⟨e, h1, h2, h3⟩
   | false =>
     simp only [cond_false, rZ (es := es)]
     constructor
     . rintro ⟨e, h1, h2⟩; exact ⟨e, List.mem_cons_of_mem _ h1, h2⟩
     . rintro ⟨e, h1, h2, h3⟩
       rcases List.mem_cons.1 h1 with rfl | h1
       . rw [hb] at h2; cases h2
       . exact ⟨e, h1, h2, h3⟩
theorem Ag {l : List Nat} : ∀ {n k : Nat}, qT l n = true → k < n → k ∈ l
 | 0, _, _, h => absurd h (Nat.not_lt_zero _)
 | n + 1, k, h, hk => by
   simp only [qT, Bool.and_eq_true] at h
   rcases Nat.lt_or_ge k n with h' | h'
   . exact Ag h.2 h'
   . have : k = n := by omega
     subst this
     exact ji.1 h.1
theorem qW {ops : List Oper} {P : Nat → Prop} (hcl : ∀ k o, ops[k]? = some o → P k → ∀ j ∈ iv o.after.toList, P j) : ∀ (n : Nat) (cl : List Nat), (∀ j ∈ cl, P j) → ∀ j ∈ nP ops n cl, P j
 | 0, cl, h => h
 | n + 1, cl, h => by
   simp only [nP]
   cases hb : aP n cl with
   | false => exact qW hcl n cl h
   | true =>
     simp only [cond_true]
     cases ho : ops[n]? with
     | none => exact qW hcl n cl h
     | some o =>
       refine qW hcl n _ fun j hj => ?_
       rcases List.mem_append.1 hj with hj | hj
       . exact hcl n o ho (h n (ji.1 hb)) j hj
       . exact h j hj

section
variable {C : Ctx} {E : Env} {st : St} {g : ay} {s : AS} {a : Act} {w : World}
theorem P0 {L ops : List Oper} {o : Oper} {K : Ef → Prop} (hd : ∀ j t, cq L j = some t → cq ops j = some t) (h : stepT C L s o K) : stepT C ops s o K := by
 unfold stepT at h ⊢
 cases hg : o.guard with
 | none => rw [hg] at h; exact h
 | some p =>
   obtain ⟨j, want⟩ := p
   rw [hg] at h
   simp only at h ⊢
   cases ht : cq L j with
   | none => rw [ht] at h; exact h.elim
   | some t => rw [ht] at h; rw [hd j t ht]; exact h
def sU (ops : Array Oper) (listed : Array Bool) : Prop := ∀ k o, ops.toList[k]? = some o → listed.getD k true = true → ∀ j ∈ iv o.after.toList, j < ops.size → listed.getD j true = true

theorem Al (G : cH C) {ops : Array Oper} {L : List Oper} {n : Nat} (hn : L.length = n) (hnle : n ≤ ops.size) {f : Nat → Rc} {sN : AS} {Q : Exit → Act → World → Prop} (pi : Nat) (Inv : AS → St → ay → Prop)
    (hLo : ∀ k o, L[k]? = some o → ∃ o', ops.toList[k]? = some o' ∧ o'.after = o.after ∧ (k ≠ pi → o' = o))
    (hdst : ∀ j t, cq L j = some t → cq ops.toList j = some t) (hf : ∀ k, k < n → Fact L f k)
    (hinv : ∀ k s d st g st' g', k < n → k ≠ pi → Inv s st g → bV st g s st' g' (s.app d (f k).e) → Inv (s.app d (f k).e) st' g')
    (hpi : ∀ (s : AS) (st : St) (g : ay) (a : Act) (w : World) (next : Act → World → Prop) (l : List Nat) (o : Oper), Inv s st g → Rel E st g s a w → aW C.gl st → L[pi]? = some o → dA C L o s (f pi) → gI C L f sN l (s.app o.dst (f pi).e) → pi ∉ l →
     (∀ j ∈ l, j < n) → wpOp C.P ops Q pi next a w)
    (htail : ∀ listed k, listed.size = ops.size → sU ops listed → n ≤ k → k < ops.size → k ∈ Region.ready .any ops listed → (pi < n → listed.getD pi true = false) → left n listed = []) :
    ∀ (fuel : Nat) (listed : Array Bool) (s : AS) (st : St) (g : ay) (a : Act) (w : World), listed.size = ops.size → (left ops.size listed).length = fuel → gI C L f sN (left n listed) s →
     (∀ k, k < n → listed.getD k true = true → ∀ j ∈ (f k).anc, j < n → listed.getD j true = true) → sU ops listed → (pi < n → listed.getD pi true = false) → (∀ k, n ≤ k → k < ops.size → listed.getD k true = false) → Inv s st g → Rel E st g s a w → aW C.gl st →
     (∀ fuel listed a' w', listed.size = ops.size → (left ops.size listed).length = fuel → left n listed = [] → sU ops listed → (pi < n → listed.getD pi true = false) → (∀ k, n ≤ k → k < ops.size → listed.getD k true = false) → Go C E st g s sN a' w' → wpAny C.P .any ops Q fuel listed a' w') →
     wpAny C.P .any ops Q fuel listed a w := by
  have hready : ∀ (listed : Array Bool) (i : Nat), listed.size = ops.size → i ∈ Region.ready .any ops listed → i ∈ left ops.size listed ∧ ∀ o, ops[i]? = some o → ∀ e ∈ o.after.toList, dW e.ground = true → listed.getD e.on false = true := fun listed i _ hi => by
   unfold Region.ready at hi
   rw [List.mem_filter] at hi
   obtain ⟨h1, h2⟩ := hi
   simp only [Bool.and_eq_true, Bool.not_eq_true', List.mem_range] at h1 h2
   refine ⟨fh.2 ⟨h1, h2.1⟩, fun o ho e he hb => ?_⟩
   have h3 := h2.2
   rw [ho] at h3
   simp only [Option.map_some, Option.getD_some] at h3
   have h4 := Array.all_eq_true'.1 h3 e (by simpa using he)
   have h5 : Region.binds .any e = true := by
    unfold Region.binds
    obtain ⟨on, gr⟩ := e
    cases gr <;> simp only [dW] at hb ⊢ <;> cases hb
   simpa [h5] using h4
  have hdn : ∀ (listed : Array Bool) (k : Nat), listed.getD k false = true → listed.getD k true = true := fun listed k h => by
   simp only [Array.getD] at h ⊢
   split
   . rename_i hk; rw [dif_pos hk] at h; exact h
   . rfl
  have hready2 : ∀ (listed : Array Bool), listed.size = ops.size → Region.ready .any ops listed = [] → left n listed = [] := fun listed hsz h => by
   cases hL : left n listed with
   | nil => rfl
   | cons i L' =>
     exfalso
     have hi : i ∈ left n listed := by rw [hL]; simp
     obtain ⟨hi1, hi2⟩ := fh.1 hi
     obtain ⟨o, ho, hlt, _⟩ := hf i hi1
     obtain ⟨o', ho1, ho2, _⟩ := hLo i o ho
     have ho' : ops[i]? = some o' := by rw [← Array.getElem?_toList]; exact ho1
     have hmem : i ∈ Region.ready .any ops listed := by
      unfold Region.ready
      rw [List.mem_filter]
      refine ⟨List.mem_range.2 (by omega), ?_⟩
      simp only [hi2, ho', Option.map_some, Option.getD_some, Bool.not_false, Bool.true_and]
      refine Array.all_eq_true'.2 fun e he => ?_
      cases hb : Region.binds .any e with
      | false => simp
      | true =>
        have hb' : dW e.ground = true := by
         unfold Region.binds at hb
         obtain ⟨on, gr⟩ := e
         cases gr <;> simp only [dW] at hb ⊢ <;> first | rfl | cases hb
        have h1 := pf hlt e (by rw [← ho2]; simpa using he) hb'
        have h2 : e.on ∉ left n listed := fun hm => by
         have := rN n listed
         rw [hL, List.pairwise_cons] at this
         rw [hL] at hm
         rcases List.mem_cons.1 hm with rfl | hm
         . omega
         . have := this.1 _ hm; omega
        have h3 : listed.getD e.on true = true := by
         cases h4 : listed.getD e.on true with
         | true => rfl
         | false => exact absurd (fh.2 ⟨by omega, h4⟩) h2
        have h5 : listed.getD e.on false = true := by
         have h6 : e.on < listed.size := by omega
         simpa [Array.getD, h6] using h3
        simp [h5]
     rw [h] at hmem
     simp at hmem
  intro fuel
  induction fuel with
  | zero =>
    intro listed s st g a w hsz hlen hch hup hsh hpl hrs hI R hg hE
    have hL : left ops.size listed = [] := List.eq_nil_of_length_eq_zero hlen
    have hL2 : left n listed = [] := by
     cases h : left n listed with
     | nil => rfl
     | cons i l =>
       have hi : i ∈ left n listed := by rw [h]; simp
       obtain ⟨h1, h2⟩ := fh.1 hi
       have : i ∈ left ops.size listed := fh.2 ⟨by omega, h2⟩
       rw [hL] at this; simp at this
    rw [hL2] at hch
    exact hE 0 listed a w hsz hlen hL2 hsh hpl hrs (Go.eqv hch R hg)
  | succ fuel ih =>
    intro listed s st g a w hsz hlen hch hup hsh hpl hrs hI R hg hE
    by_cases hL2 : left n listed = []
    . rw [hL2] at hch
      exact hE _ listed a w hsz hlen hL2 hsh hpl hrs (Go.eqv hch R hg)
    refine ⟨fun hr => absurd (hready2 listed hsz hr) hL2, fun i hi => ?_⟩
    obtain ⟨hi1, hi2⟩ := hready listed i hsz hi
    obtain ⟨hi3, hi4⟩ := fh.1 hi1
    rcases Nat.lt_or_ge i n with hin | hin
    rotate_left
    . exact absurd (htail listed i hsz hsh hin hi3 hi hpl) hL2
    have hi1' : i ∈ left n listed := fh.2 ⟨hin, hi4⟩
    obtain ⟨l1, l2, q1, q2, q3⟩ := vi (rN _ _) hi1'
    obtain ⟨o, ho, hlt, hanc, hind⟩ := hf i hin
    obtain ⟨o', ho1, ho2, ho3⟩ := hLo i o ho
    have ho' : ops[i]? = some o' := by rw [← Array.getElem?_toList]; exact ho1
    have hno : ∀ j ∈ (f i).anc, j < n → listed.getD j true = true := fun j hj hjs => by
     obtain ⟨e, he, hb, hor⟩ := hanc j hj
     have h5 := hi2 o' ho' e (by rw [ho2]; exact he) hb
     have h6 : e.on < n := by
      have := pf hlt e he hb
      omega
     have h7 : listed.getD e.on true = true := hdn listed _ h5
     rcases hor with rfl | hor
     . exact h7
     . exact hup e.on h6 h7 j hor hjs
    rw [q1] at hch
    obtain ⟨o₂, h1, h2, h3⟩ := hch.front fun j hj => by
     rcases hind j (q2 j hj) with h | h
     . have hjl : j ∈ left n listed := by rw [q1]; exact List.mem_append_left _ hj
       obtain ⟨hj1, hj2⟩ := fh.1 hjl
       rw [hno j h hj1] at hj2; cases hj2
     . exact h
    rw [ho] at h1; cases h1
    have hls : left n (listed.setIfInBounds i true) = l1 ++ l2 := by
     have e1 : left n (listed.setIfInBounds i true) = (left n listed).filter (fun k => k != i) := by
      unfold left
      rw [List.filter_filter]
      congr 1
      funext k
      rw [mK (by omega)]
      by_cases h : k = i
      . subst h; simp
      . simp [h]
     rw [e1, q3]
    by_cases hip : i = pi
    . subst hip
      refine hpi s st g a w _ (l1 ++ l2) o hI R hg ho h2 h3 ?_ ?_
      . rw [← hls]
        intro hm
        have := (fh.1 hm).2
        rw [mK (by omega), if_pos rfl] at this
        cases this
      . rw [← hls]; exact fun j hj => (fh.1 hj).1
    have hoo := ho3 hip
    subst hoo
    refine EE G R hg ho' h2.dok (P0 hdst h2.ef) fun a' w' hgo => ?_
    obtain ⟨st', g', R', hg', A⟩ := hgo
    refine ih (listed.setIfInBounds i true) _ st' g' a' w' (by simpa using hsz) ?_ ?_ (fun k hk hkl j hj hjs => ?_) (fun k o hk hkl j hj hjs => ?_) (fun hp => ?_) (fun k hk1 hk2 => ?_) (hinv i s _ st g st' g' hin hip hI A) R' hg' fun fl ls a'' w'' x1 x2 x3 x4 x5 x6 hgo' => hE fl ls a'' w'' x1 x2 x3 x4 x5 x6 (hgo'.trans A)
    . rw [xb (by omega)]
      obtain ⟨m1, m2, r1, r2, r3⟩ := vi (rN _ _) hi1
      have := congrArg List.length r1
      rw [r3]
      simp only [List.length_append, List.length_cons] at this ⊢
      omega
    . rw [hls]; exact h3
    . rw [mK (by omega)] at hkl ⊢
      by_cases e1 : j = i
      . rw [if_pos e1]
      . rw [if_neg e1]
        by_cases e2 : k = i
        . subst e2; exact hno j hj hjs
        . rw [if_neg e2] at hkl; exact hup k hk hkl j hj hjs
    . rw [mK (by omega)] at hkl ⊢
      by_cases e1 : j = i
      . rw [if_pos e1]
      . rw [if_neg e1]
        by_cases e2 : k = i
        . subst e2
          rw [ho1] at hk; cases hk
          obtain ⟨e, he1, he2, rfl⟩ := rZ.1 hj
          exact hdn listed _ (hi2 _ ho' e he1 he2)
        . rw [if_neg e2] at hkl; exact hsh k o hk hkl j hj hjs
    . rw [mK (by omega), if_neg (Ne.symm hip)]; exact hpl hp
    . rw [mK (by omega), if_neg (by omega)]; exact hrs k hk1 hk2
theorem cH.both (G : cH C) : cH C.both where
 toGood := ⟨G.ti, G.mt, G.hm⟩
 gam := fun f args sg pre x r h hp => by
  have h : (match C.Γ f args sg with | some r => some r | none => C.jl.Γ f args sg) = some (pre, x, r) := h
  split at h
  . rename_i hr
    cases h
    exact G.gam _ _ _ _ _ _ hr hp
  . exact G.jl.gam _ _ _ _ _ _ h hp
 del := G.del
theorem uw {ops : Array Oper} {listed : Array Bool} {i : Nat} (hi : i ∈ Region.ready .any ops listed) : i ∈ left ops.size listed ∧ ∀ o, ops[i]? = some o → ∀ e ∈ o.after.toList, dW e.ground = true → listed.getD e.on true = true := by
 unfold Region.ready at hi
 rw [List.mem_filter] at hi
 obtain ⟨h1, h2⟩ := hi
 simp only [Bool.and_eq_true, Bool.not_eq_true', List.mem_range] at h1 h2
 refine ⟨fh.2 ⟨h1, h2.1⟩, fun o ho e he hb => ?_⟩
 have h3 := h2.2
 rw [ho] at h3
 simp only [Option.map_some, Option.getD_some] at h3
 have h4 := Array.all_eq_true'.1 h3 e (by simpa using he)
 have h5 : Region.binds .any e = true := by
  unfold Region.binds
  obtain ⟨on, gr⟩ := e
  cases gr <;> simp only [dW] at hb ⊢ <;> cases hb
 have h6 : listed.getD e.on false = true := by simpa [h5] using h4
 simp only [Array.getD] at h6 ⊢
 split
 . rename_i hk; rw [dif_pos hk] at h6; exact h6
 . rfl
theorem ND {ops : Array Oper} {listed : Array Bool} {i : Nat} {o : Oper} (hsz : listed.size = ops.size) (hi : i ∈ left ops.size listed) (ho : ops[i]? = some o) (h : ∀ e ∈ o.after.toList, dW e.ground = true → e.on < ops.size ∧ listed.getD e.on true = true) :
   i ∈ Region.ready .any ops listed := by
 obtain ⟨hi1, hi2⟩ := fh.1 hi
 unfold Region.ready
 rw [List.mem_filter]
 refine ⟨List.mem_range.2 hi1, ?_⟩
 simp only [hi2, ho, Option.map_some, Option.getD_some, Bool.not_false, Bool.true_and]
 refine Array.all_eq_true'.2 fun e he => ?_
 cases hb : Region.binds .any e with
 | false => simp
 | true =>
   have hb' : dW e.ground = true := by
    unfold Region.binds at hb
    obtain ⟨on, gr⟩ := e
    cases gr <;> simp only [dW] at hb ⊢ <;> first | rfl | cases hb
   obtain ⟨h1, h3⟩ := h e (by simpa using he) hb'
   have h5 : listed.getD e.on false = true := by
    have h6 : e.on < listed.size := by omega
    simpa [Array.getD, h6] using h3
   simp [h5]
theorem tY {n m : Nat} (h : n ≤ m) : left n (Array.replicate m false) = List.range' 0 n := by
 unfold left
 rw [← List.range_eq_range', List.filter_eq_self]
 intro i hi
 have : i < n := List.mem_range.1 hi
 simp [Array.getD, show i < m by omega]
theorem El {ops : Array Oper} : sU ops (Array.replicate ops.size false) := fun k o hk hl => by
 have : k < ops.size := by
  have := (List.getElem?_eq_some_iff.1 hk).1
  simpa using this
 simp [Array.getD, this] at hl
theorem bV.leq {st' : St} {g' : ay} {x y : AS} (A : bV st g s st' g' x) (h : eA y x) : bV st g s st' g' y :=
 ⟨A.mono, fun i hi hm => A.bm i hi (by rw [← h.kl]; exact hm), by rw [h.sg]; exact A.len, fun i hi => by rw [h.kl]; exact A.kl i hi⟩
theorem B5 {L M : List Oper} {j t : Nat} (h : cq L j = some t) : cq (L ++ M) j = some t := by
 induction L generalizing j with
 | nil => cases h
 | cons o L ih =>
   cases j with
   | zero => exact h
   | succ j => exact ih h
theorem P9 {c : Call} {f : FuncId} {args : List V} (ht : target C s c = some (f, args)) : ∃ x first captured, c.callee = .value x ∧ s.ev C x = .func (.func f) first captured ∧ args = first ++ s.aX C c.args.toList ++ captured := by
 unfold target at ht
 split at ht
 . rename_i x hx
   split at ht
   . rename_i g' first captured hf
     cases ht
     exact ⟨x, first, captured, hx, hf, rfl⟩
   . cases ht
 . cases ht
theorem FY {ops : Array Oper} {id : Nat} (R : Rel E st g s a w) (hg : aW C.gl st) (G : cH C) {Q : Exit → Act → World → Prop} {K : Ex → AS → Prop} {L : List Oper} {o : Oper} {c : Call} (hops : ops.toList = L ++ [o]) (hc : o.op = .call c) (hgd : o.guard = none)
   (hed : ll L.length o.after.toList = true) (hb : qT (nP ops.toList L.length (iv o.after.toList)) L.length = true) (h : kz C.both L L 0 [] s (x9 C o c K))
   (hK : ∀ s' a' w', K .norm s' → Go C E st g s s' a' w' → Q .normal a' w') (hX : ∀ u s' a' w', K (.pan u) s' → Go C E st g s s' a' w' → Q (.panic [{ v := u, recovered := false }]) a' w') : (Code.region id ops true).wp C.P Q a w := by
 have hsz : ops.size = L.length + 1 := by rw [← Array.length_toList, hops]; simp
 have hn : ops[L.length]? = some o := by rw [← Array.getElem?_toList, hops, List.getElem?_append_right (Nat.le_refl _)]; simp
 obtain ⟨new, sN, ⟨y, hy, hk⟩, _, hch, hfact⟩ := ta (C := C.both) L 0 [] s (tG (C := C.both) L 0 [] s s (eA.refl s) h) rfl (fun k => by rw [Nat.zero_add])
 refine wp_region_any G.hm ?_
 refine Al (C := C.both) G.both (ops := ops) (L := L) (n := L.length) rfl (by omega) L.length (fun _ _ _ => True) (fun k o' ho => ⟨o', by rw [hops, List.getElem?_append_left (List.getElem?_eq_some_iff.1 ho).1]; exact ho, rfl, fun _ => rfl⟩)
  (fun j t ht => by rw [hops]; exact B5 ht) (fun k hk2 => hfact k (Nat.zero_le _) (by simpa using hk2)) (fun _ _ _ _ _ _ _ _ _ _ _ => trivial) (fun _ _ _ _ _ _ _ o' _ _ _ ho => ?_) (fun listed k hls hsh hk1 hk2 hr _ => ?_)
  ops.size (Array.replicate ops.size false) s st g a _ (by simp) (by rw [tY (Nat.le_refl _)]; simp) (by rw [tY (by omega)]; exact hch) (fun k hk2 hkl => ?_) El (fun q => absurd q (Nat.lt_irrefl _)) (fun k hk1 hk2 => ?_) trivial ⟨R.nt, R.df, R.tm, R.wr.same ⟨rfl, rfl, rfl, rfl⟩⟩ hg
  (fun fuel listed a' w' hls hlen hL2 hsh _ hrs hgo => ?_)
 . rw [List.getElem?_eq_none (Nat.le_refl _)] at ho; cases ho
 . have : k = L.length := by omega
   subst this
   have hd := (uw hr).2 o hn
   have hcl := qW (ops := ops.toList) (P := fun j => j < ops.size → listed.getD j true = true) (fun k o ho hkl j hj hjs => hsh k o ho (hkl (by
    have := (List.getElem?_eq_some_iff.1 ho).1
    simpa using this)) j hj hjs) L.length (iv o.after.toList) fun j hj _ => by
     obtain ⟨e, he1, he2, rfl⟩ := rZ.1 hj
     exact hd e he1 he2
   cases hl : left L.length listed with
   | nil => rfl
   | cons i l =>
     exfalso
     have hi : i ∈ left L.length listed := by rw [hl]; simp
     obtain ⟨hi1, hi2⟩ := fh.1 hi
     have := hcl i (Ag hb hi1) (by omega)
     rw [this] at hi2; cases hi2
 . have hlt : k < ops.size := by omega
   simp [Array.getD, hlt] at hkl
 . simp [Array.getD, hk2]
 . obtain ⟨st', g', R0, hg', A0⟩ := hgo
   have Ry := R0.leq hy
   have Ay := A0.leq hy
   have hnl : listed.getD L.length true = false := hrs _ (Nat.le_refl _) (by omega)
   have hleft : left ops.size listed = [L.length] := by
    rw [hsz]
    unfold left at hL2 ⊢
    rw [List.range_succ, List.filter_append, hL2]
    simp only [List.nil_append, List.filter_cons, List.filter_nil, hnl]
    rfl
   rw [hleft] at hlen
   obtain rfl : fuel = 1 := by simpa using hlen.symm
   have hall : ∀ e ∈ o.after.toList, dW e.ground = true → e.on < ops.size ∧ listed.getD e.on true = true := fun e he hb => by
    have h1 := pf hed e he hb
    refine ⟨by omega, ?_⟩
    cases h4 : listed.getD e.on true with
    | true => rfl
    | false =>
      have : e.on ∈ left L.length listed := fh.2 ⟨h1, h4⟩
      rw [hL2] at this; simp at this
   have hrd := ND (i := L.length) hls (by rw [hleft]; simp) hn hall
   refine ⟨fun hr => by rw [hr] at hrd; simp at hrd, fun i hi => ?_⟩
   have hi1 := (uw hi).1
   rw [hleft, List.mem_singleton] at hi1
   subst hi1
   show wpOp C.P ops Q L.length (wpAny C.P .any ops Q 0 (listed.setIfInBounds L.length true)) a' w'
   unfold wpOp
   rw [hn]
   simp only
   rw [if_pos (by simp [Region.wanted, hgd])]
   left
   unfold x9 at hk
   cases ht : target C y c with
   | none => rw [ht] at hk; exact hk.elim
   | some p =>
     obtain ⟨f, args⟩ := p
     rw [ht] at hk
     obtain ⟨x, first, captured, hx1, hx2, rfl⟩ := P9 ht
     obtain ⟨vs, hv1, hv2⟩ := uC (C := C) (c := c) Ry hg' hx1 hx2
     simp only at hk
     split at hk
     . rename_i p e1 q e2 hp1 hp2
       obtain ⟨hd, hpq, h1, h2⟩ := nz.1 hk
       by_cases hp : p
       . have h1 := h1 hp
         unfold oF at h1
         rw [iq] at h1
         refine xN (C := C.hJ) Ry hg' G.hJ (hv2 o hc) hv1 hp1 hp fun u st2 g2 w2 hu A2 W2 => ?_
         rw [hu] at h1
         simp only [fk, eE] at h1
         refine hX u _ a' w2 h1 ⟨st2, g2, ?_, hg'.mono A2.mono, Ay.trans (bV.app (d := none) (e := ⟨.undef, e1.ks, e1.up, e1.nw, e1.rd⟩) A2)⟩
         exact Ry.app (d := none) (e := ⟨.undef, e1.ks, e1.up, e1.nw, e1.rd⟩) (v := undef) rfl A2 W2 (by simp [VR])
       . have hq := hpq.resolve_left hp
         have h2 := h2 hq
         rw [iq, eE] at h2
         have h3 := sl (C := C.jl) (o := o) Ry hg' G.jl (hv2 o hc) hv1 hp2 hq
         refine pD (C := C) Ry hg' hd h3 fun a2 w2 hgo2 => ?_
         refine ⟨?_, hK _ a2 w2 h2 (hgo2.trans Ay)⟩
         cases hr : Region.ready .any ops (listed.setIfInBounds L.length true) with
         | nil => rfl
         | cons j l =>
           exfalso
           have hj := (uw (by rw [hr]; simp : j ∈ Region.ready .any ops (listed.setIfInBounds L.length true))).1
           rw [xb (by omega), hleft] at hj
           simp at hj
     . exact hk.elim
theorem Ed {o : Oper} : ∀ {L : List Oper} {i k : Nat}, (iy L i o)[k]? = if k = i ∧ i < L.length then some o else L[k]?
 | [], i, k => by simp [iy]
 | p :: L, 0, 0 => by simp [iy]
 | p :: L, 0, k + 1 => by simp [iy]
 | p :: L, i + 1, 0 => by simp [iy]
 | p :: L, i + 1, k + 1 => by
   simp only [iy, List.getElem?_cons_succ, Ed (L := L), List.length_cons]
   by_cases h : k = i ∧ i < L.length
   . rw [if_pos h, if_pos ⟨by omega, by omega⟩]
   . rw [if_neg h, if_neg (fun q => h ⟨by omega, by omega⟩)]
theorem Ee {o : Oper} : ∀ {L : List Oper} {i : Nat}, (iy L i o).length = L.length
 | [], _ => rfl
 | _ :: _, 0 => rfl
 | _ :: L, i + 1 => by simp only [iy, List.length_cons]; rw [Ee (L := L)]
theorem DG {i : Nat} : ∀ {L : List Oper} {m k : Nat} {o : Oper}, qn i L m = true → L[k]? = some o → m + k ≠ i → qOp o.op = true
 | [], _, _, _, _, h, _ => by simp at h
 | p :: L, m, 0, o, h, ho, hk => by
   simp at ho; subst ho
   simp only [qn, Bool.and_eq_true, Bool.or_eq_true] at h
   rcases h.1 with h | h
   . exact absurd (Nat.eq_of_beq_eq_true h) hk
   . exact h
 | p :: L, m, k + 1, o, h, ho, hk => by
   simp only [qn, Bool.and_eq_true] at h
   exact DG h.2 (by simpa using ho) (by omega)
theorem B7 {i d : Nat} : ∀ {L : List Oper} {m k : Nat} {o : Oper}, p9 i d L m = true → L[k]? = some o → m + k ≠ i → o.dst ≠ some d
 | [], _, _, _, _, h, _ => by simp at h
 | p :: L, m, 0, o, h, ho, hk => by
   simp at ho; subst ho
   simp only [p9, Bool.and_eq_true, Bool.or_eq_true] at h
   rcases h.1 with h | h
   . exact absurd (Nat.eq_of_beq_eq_true h) hk
   . intro q
     rw [q] at h
     simp at h
 | p :: L, m, k + 1, o, h, ho, hk => by
   simp only [p9, Bool.and_eq_true] at h
   exact B7 h.2 (by simpa using ho) (by omega)
theorem EL {ops : List Oper} {i : Nat} : ∀ {T : List Oper} {n k : Nat} {o : Oper}, qE ops i T n = true → T[k]? = some o → i ∈ nP ops (n + k) (iv o.after.toList)
 | [], _, _, _, _, h => by simp at h
 | p :: T, n, 0, o, h, ho => by
   simp at ho; subst ho
   simp only [qE, Bool.and_eq_true] at h
   exact ji.1 h.1
 | p :: T, n, k + 1, o, h, ho => by
   simp only [qE, Bool.and_eq_true] at h
   have := EL h.2 (by simpa using ho : T[k]? = some o)
   rwa [show n + 1 + k = n + (k + 1) by omega] at this
def Qt (t : Tr Ef) : Prop := ∀ K : Ef → Prop, t K → ∃ b, K b ∧ quiet b = true
theorem Qt.fail : Qt fail := fun _ h => h.elim
theorem Qt.ret {e : Ef} (h : quiet e = true) : Qt (ret e) := fun _ hk => ⟨e, hk, h⟩
theorem Qt.when {b : Bool} {t : Tr Ef} (h : Qt t) : Qt (bp b t) := fun K hk => h K (nz.1 hk).2
theorem Qt.opt {α : Type} {o : Option α} {f : α → Tr Ef} (h : ∀ a, Qt (f a)) : Qt (dw o f) := fun K hk => by
 have hk : fk o fun a => f a K := hk
 cases o with
 | none => exact hk.elim
 | some a => exact h a K hk
theorem Qt.idx {α : Type} {l : List α} {n : Nat} {f : α → Tr Ef} (h : ∀ a, Qt (f a)) : Qt (mP l n f) := by rw [jN]; exact Qt.opt h
theorem Qt.force {x : V} {f : V → Tr Ef} (h : ∀ x, Qt (f x)) : Qt (force x f) := by rw [force_eq]; exact h x
theorem Qt.bq {n : Nat} {f : Nat → Tr Ef} (h : ∀ x, Qt (f x)) : Qt (bq n f) := by rw [de]; exact h n
theorem Qt.part {agg : Bool} {size off : Nat} {cs : List V} {f : V → Tr Ef} (h : ∀ v, Qt (f v)) : Qt (dT (gZ agg size cs off) f) := fun K hk => by
 unfold gZ dT at hk
 cases agg with
 | true =>
   have hk : fk (gk (ik cs off) size) fun r => f (.agg r) K := hk
   cases hx : gk (ik cs off) size with
   | none => rw [hx] at hk; exact hk.elim
   | some r => rw [hx] at hk; exact h _ K hk
 | false =>
   have hk : fk (ja cs off) fun r => f r K := hk
   cases hx : ja cs off with
   | none => rw [hx] at hk; exact hk.elim
   | some r => rw [hx] at hk; exact h _ K hk
theorem Ns {t : TypeId} {x : Operand} : Qt (ly C s t x) := by
 unfold ly
 repeat' split
 all_goals first
  | exact Qt.fail
  | exact Qt.part fun v => Qt.force fun v => Qt.ret rfl
  | exact Qt.idx fun x => Qt.when (Qt.part fun v => Qt.force fun v => Qt.ret rfl)
theorem Nt {x : Operand} : Qt (mA C s x) := by
 unfold mA
 repeat' split
 all_goals first
  | exact Qt.fail
  | exact Qt.ret rfl
theorem qt_fa {t : TypeId} {x : Operand} {f : Nat} : Qt (mn C s t x f) := by
 unfold mn
 split
 . refine Qt.opt fun ft => ?_
   split
   . exact Qt.fail
   . refine Qt.when ?_
     split <;> first
      | exact Qt.fail
      | exact Qt.bq fun a => Qt.ret rfl
 . exact Qt.fail
theorem Nr {t : TypeId} {x : Operand} {f : Nat} : Qt (mm C s t x f) := by
 unfold mm
 split
 . refine Qt.opt fun ft => ?_
   split
   . exact Qt.fail
   . exact Qt.part fun v => Qt.force fun v => Qt.ret rfl
 . exact Qt.fail
theorem DF {o : Oper} (h : qOp o.op = true) : Qt (cr C s o) := by
 unfold cr
 cases hop : o.op <;> rw [hop] at h <;> try (cases h; done)
 all_goals simp only
 . exact Qt.force fun x => Qt.ret rfl
 . exact Ns
 . exact Nt
 . exact qt_fa
 . exact Nr
theorem Nu {L : List Oper} {o : Oper} (h : qOp o.op = true) : Qt (stepT C L s o) := by
 unfold stepT
 split
 . exact DF h
 . split
   . exact Qt.fail
   . split
     . have hb : ∀ (c b : Bool) (t u : Tr Ef), Qt t → Qt u → Qt (cond c (jD b t u) (jD b u t)) := fun c b t u ht hu => by
         cases c <;> cases b <;> first | exact ht | exact hu
       exact hb _ _ _ _ (DF h) (Qt.ret rfl)
     . exact Qt.ret rfl
     . exact Qt.fail
theorem P2 {L : List Oper} {o : Oper} {r : Rc} (h : qOp o.op = true) (hs : dA C L o s r) : quiet r.e = true := by
 obtain ⟨b, hb, hq⟩ := Nu h _ hs.ef
 rw [← hb]; exact hq
theorem AV {L : List Oper} {f : Nat → Rc} {sN : AS} : ∀ {l : List Nat} {s : AS}, gI C L f sN l s → ∀ k ∈ l, ∃ o s', L[k]? = some o ∧ dA C L o s' (f k)
 | [], _, _, k, hk => by simp at hk
 | i :: l, s, ⟨o, h1, h2, h3⟩, k, hk => by
   rcases List.mem_cons.1 hk with rfl | hk
   . exact ⟨o, s, h1, h2⟩
   . exact AV h3 k hk
theorem AU {L : List Oper} {f : Nat → Rc} {sN : AS} {d : Nat} : ∀ {l : List Nat} {s : AS}, gI C L f sN l s → (∀ k ∈ l, quiet (f k).e = true ∧ ∀ o, L[k]? = some o → o.dst ≠ some d) → lk sN.tm d = lk s.tm d
 | [], s, h, _ => (eV.tm h d).symm
 | i :: l, s, ⟨o, h1, h2, h3⟩, hq => by
   rw [AU h3 fun k hk => hq k (List.mem_cons_of_mem _ hk), gX, if_neg ((hq i (by simp)).2 o h1), (nb.1 (hq i (by simp)).1).1]
   exact fy _
theorem FZ {ops : Array Oper} {id : Nat} (R : Rel E st g s a w) (hg : aW C.gl st) (G : cH C) {Q : Exit → Act → World → Prop} {K : Ex → AS → Prop} {L T : List Oper} {i : Nat} {o : Oper} {x : Operand} {d : Tmp} {f : FuncId} {c : Call}
   (hops : ops.toList = L ++ T) (hi : L[i]? = some o) (hc : o.op = .call c) (hcv : c.callee = .value (.func f)) (hca : c.args = #[x]) (hgd : o.guard = none) (hd : o.dst = some d) (hq : qn i L 0 = true) (hu : p9 i d L 0 = true) (ht : qE ops.toList i T L.length = true)
   (h : kz C.both (iy L i { o with op := .move x }) (iy L i { o with op := .move x }) 0 [] s (xw C f d s K))
   (hX : ∀ u s' a' w', K (.pan u) s' → Go C E st g s s' a' w' → Q (.panic [{ v := u, recovered := false }]) a' w') : (Code.region id ops true).wp C.P Q a w := by
 have hsz : ops.size = L.length + T.length := by rw [← Array.length_toList, hops]; simp
 have hil : i < L.length := (List.getElem?_eq_some_iff.1 hi).1
 have hoi : ops[i]? = some o := by rw [← Array.getElem?_toList, hops, List.getElem?_append_left hil]; exact hi
 generalize hL' : iy L i { o with op := .move x } = L' at h
 have hlen' : L'.length = L.length := by rw [← hL', Ee]
 have hget : ∀ k, L'[k]? = if k = i then some { o with op := .move x } else L[k]? := fun k => by
  rw [← hL', Ed]
  by_cases e : k = i
  . rw [if_pos ⟨e, hil⟩, if_pos e]
  . rw [if_neg (fun q => e q.1), if_neg e]
 obtain ⟨new, sN, ⟨y, hy, hk⟩, _, hch, hfact⟩ := ta (C := C.both) L' 0 [] s (tG (C := C.both) L' 0 [] s s (eA.refl s) h) rfl (fun k => by rw [Nat.zero_add])
 rw [hlen'] at hch hfact
 generalize hf : (fun k => ([] ++ new).getD k lV) = f0 at hch
 have hquiet : ∀ k, k < L.length → k ≠ i → quiet (f0 k).e = true := fun k hk1 hk2 => by
  obtain ⟨o', s', h1, h2⟩ := AV hch k (by rw [List.mem_range']; exact ⟨k, hk1, by omega⟩)
  rw [hget, if_neg hk2] at h1
  exact P2 (DG hq h1 (by omega)) h2
 have hdst : ∀ j t, cq L' j = some t → cq ops.toList j = some t := fun j t hj => by
  have dstAt_get : ∀ (M : List Oper) (j : Nat), cq M j = (M[j]?).bind (·.dst) := fun M => by
   induction M with
   | nil => intro j; simp [cq]
   | cons p M ih => intro j; cases j with
     | zero => simp [cq]
     | succ j => simp [cq, ih]
  rw [dstAt_get] at hj
  have hj2 : cq L j = some t := by
   rw [dstAt_get]
   rw [hget] at hj
   by_cases e : j = i
   . rw [if_pos e] at hj
     subst e
     rw [hi]; exact hj
   . rw [if_neg e] at hj; exact hj
  rw [hops]; exact B5 hj2
 refine wp_region_any G.hm ?_
 refine Al (C := C.both) G.both (ops := ops) (L := L') (n := L.length) hlen' (by omega) (f := f0) (sN := sN) i
  (fun s' st' g' => s'.sg = s.sg ∧ s'.nt = s.nt ∧ (∀ k, aP k s'.kl = true ↔ aP k s.kl = true) ∧ bV st g s st' g' s')
  (fun k o' ho => ?_) hdst (fun k hk2 => by rw [← hf]; exact hfact k (Nat.zero_le _) (by simpa using hk2)) (fun k s' d' st1 g1 st2 g2 hk1 hk2 hI A => ?_) (fun s' st1 g1 a1 w1 next l o' hI R1 hg1 ho hs1 hch1 hil1 hjl => ?_) (fun listed k hls hsh hk1 hk2 hr hpl => ?_)
  ops.size (Array.replicate ops.size false) s st g a _ (by simp) (by rw [tY (Nat.le_refl _)]; simp) (by rw [tY (by omega)]; exact hch) (fun k hk2 hkl => ?_) El (fun _ => by simp [Array.getD, show i < ops.size by omega]) (fun k hk1 hk2 => by simp [Array.getD, hk2]) ⟨rfl, rfl, fun _ => Iff.rfl, bV.refl⟩
  ⟨R.nt, R.df, R.tm, R.wr.same ⟨rfl, rfl, rfl, rfl⟩⟩ hg (fun fuel listed a' w' hls hlen hL2 hsh hpl hrs hgo => ?_)
 . rw [hget] at ho
   by_cases e : k = i
   . rw [if_pos e] at ho
     cases ho
     subst e
     exact ⟨o, by rw [hops, List.getElem?_append_left hil]; exact hi, rfl, fun q => absurd rfl q⟩
   . rw [if_neg e] at ho
     exact ⟨o', by rw [hops, List.getElem?_append_left (List.getElem?_eq_some_iff.1 ho).1]; exact ho, rfl, fun _ => rfl⟩
 . have hqk := hquiet k hk1 hk2
   refine ⟨by rw [gq hqk]; exact hI.1, hI.2.1, fun j => ?_, hI.2.2.2.trans A⟩
   rw [← hI.2.2.1 j]
   show aP j (ep (f0 k).e.ks s'.kl) = true ↔ _
   rw [(nb.1 hqk).1]; rfl
 . rw [hget, if_pos rfl] at ho
   cases ho
   have he : (f0 i).e = pe (s'.ev C x) := by
    have := hs1.ef
    unfold stepT at this
    simp only [hgd] at this
    unfold cr at this
    simp only [force_eq] at this
    exact this.symm
   have hlk : lk sN.tm d = s'.ev C x := by
    rw [AU (d := d) hch1 fun k hk => ⟨hquiet k (hjl k hk) (fun e => hil1 (e ▸ hk)), fun o2 ho2 => by
     have e : k ≠ i := fun e => hil1 (e ▸ hk)
     rw [hget, if_neg e] at ho2
     exact B7 hu ho2 (by omega)⟩]
    rw [gX, if_pos hd, he]; rfl
   unfold xw at hk
   rw [show lk y.tm d = s'.ev C x by rw [hy.tm, hlk], show cV C.hJ s.sg f [s'.ev C x] = cV C.hJ s'.sg f [s'.ev C x] by rw [hI.1]] at hk
   unfold wpOp
   rw [hoi]
   simp only
   rw [if_pos (by simp [Region.wanted, hgd])]
   left
   obtain ⟨vs, hv1, hv2⟩ := uC (C := C) (c := c) (f := f) (first := []) (captured := []) (R := R1) hg1 hcv rfl
   have hargs : ([] : List V) ++ s'.aX C c.args.toList ++ [] = [s'.ev C x] := by rw [hca]; simp [AS.aX]
   rw [hargs] at hv1
   cases hp1 : cV C.hJ s'.sg f [s'.ev C x] with
   | none => rw [hp1] at hk; exact hk.elim
   | some p1 =>
     obtain ⟨p, e1⟩ := p1
     rw [hp1] at hk
     obtain ⟨hp, hk⟩ := hk
     unfold oF at hk
     rw [iq] at hk
     refine xN (C := C.hJ) R1 hg1 G.hJ (hv2 o hc) hv1 hp1 hp fun u st2 g2 w2 hu A2 W2 => ?_
     rw [hu] at hk
     simp only [fk, eE] at hk
     have hsg : (AS.app ⟨s.nt, [], s.sg, s.kl⟩ none ⟨.undef, e1.ks, e1.up, e1.nw, e1.rd⟩).sg = (s'.app none e1).sg := by rw [ig, ig, hI.1]
     have A3 := hI.2.2.2.trans (bV.app (d := none) (e := ⟨.undef, e1.ks, e1.up, e1.nw, e1.rd⟩) A2)
     have hkl : ∀ j, aP j (AS.app ⟨s.nt, [], s.sg, s.kl⟩ none ⟨.undef, e1.ks, e1.up, e1.nw, e1.rd⟩).kl = true ↔ aP j (s'.app none ⟨.undef, e1.ks, e1.up, e1.nw, e1.rd⟩).kl = true := fun j => by
      show aP j (ep e1.ks s.kl) = true ↔ aP j (ep e1.ks s'.kl) = true
      rw [gK, gK, hI.2.2.1 j]
     refine hX u _ a1 w2 hk ⟨st2, g2, ⟨by rw [R1.nt, hI.2.1]; rfl, R1.df, fun t => ?_, by rw [hsg]; exact W2⟩, hg1.mono A2.mono, ⟨A3.mono, fun j hj hm => A3.bm j hj ?_, by rw [hsg]; exact A3.len, fun j hj => (hkl j).2 (A3.kl j hj)⟩⟩
     . show VR st2 g2 (lk (gW e1.ks []) t) _ _
       rw [lP]
       simp [lk, V.kill, VR]
     . cases hb : aP j (s'.app none ⟨.undef, e1.ks, e1.up, e1.nw, e1.rd⟩).kl with
       | false => rfl
       | true => rw [(hkl j).2 hb] at hm; cases hm
 . exfalso
   have hot : ∃ o', ops[k]? = some o' := ⟨_, Array.getElem?_eq_getElem hk2⟩
   obtain ⟨o', ho'⟩ := hot
   have hok : ops.toList[k]? = some o' := by rw [Array.getElem?_toList]; exact ho'
   have hT : T[k - L.length]? = some o' := by rw [hops, List.getElem?_append_right hk1] at hok; exact hok
   have hm := EL ht hT
   rw [show L.length + (k - L.length) = k by omega] at hm
   have hd2 := (uw hr).2 o' ho'
   have hcl := qW (ops := ops.toList) (P := fun j => j < ops.size → listed.getD j true = true) (fun k o ho hkl j hj hjs => hsh k o ho (hkl (by
    have := (List.getElem?_eq_some_iff.1 ho).1
    simpa using this)) j hj hjs) k (iv o'.after.toList) (fun j hj _ => by
     obtain ⟨e, he1, he2, rfl⟩ := rZ.1 hj
     exact hd2 e he1 he2) i hm (by omega)
   rw [hpl hil] at hcl
   cases hcl
 . have hlt : k < ops.size := by omega
   simp [Array.getD, hlt] at hkl
 . exfalso
   have : i ∈ left L.length listed := fh.2 ⟨hil, hpl hil⟩
   rw [hL2] at this; simp at this
theorem FX {ops : Array Oper} {id : Nat} (R : Rel E st g s a w) (hg : aW C.gl st) (G : cH C) {Q : Exit → Act → World → Prop} {K : Ex → AS → Prop} (h : A7 C ops.toList s K)
   (hK : ∀ s' a' w', K .norm s' → Go C E st g s s' a' w' → Q .normal a' w') (hX : ∀ u s' a' w', K (.pan u) s' → Go C E st g s s' a' w' → Q (.panic [{ v := u, recovered := false }]) a' w') : (Code.region id ops true).wp C.P Q a w := by
 cases h with
 | last L o c hops hc hgd hed hb h => exact FY R hg G hops hc hgd hed hb h hK hX
 | pan L T i o x d f c hops hi hc hcv hca hgd hd hq hu ht h => exact FZ R hg G hops hi hc hcv hca hgd hd hq hu ht h hX
end
end Go.VG
