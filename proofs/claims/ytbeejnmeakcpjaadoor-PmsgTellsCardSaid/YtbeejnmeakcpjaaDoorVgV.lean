/-
  A guard that was met is told from then on: that turns nothing.
-/
import Derived.Test.YtbeejnmeakcpjaaDoorVgU
set_option linter.unusedSimpArgs false
set_option linter.unusedVariables false
namespace Go.VG
open Go

/-- two states that tell the same -/
structure LEq (s t : AS) : Prop where
  nt : s.nt = t.nt
  tm : ∀ u, lk s.tm u = lk t.tm u
  sg : s.sg = t.sg
  kl : s.kl = t.kl

section
variable {C : Ctx} {E : Env} {st : St} {g : Ghost} {s t : AS} {a : Act} {w : World} {o : Oper} {e : Ef}
theorem LEq.refl (s : AS) : LEq s s := ⟨rfl, fun _ => rfl, rfl, rfl⟩
theorem LEq.ev (h : LEq s t) (x : Operand) : s.ev C x = t.ev C x := by
  cases x with
  | tmp u => exact h.tm u
  | _ => rfl
theorem LEq.app (h : LEq s t) (d : Option Nat) (e : Ef) : LEq (s.app d e) (t.app d e) := by
  refine ⟨h.nt, fun u => ?_, ?_, ?_⟩
  · cases d with
    | none => simp only [AS.app, lk_killIf, h.tm]
    | some d =>
      simp only [AS.app, lk]
      cases Nat.beq d u with
      | true => rfl
      | false => simp only [cond_false, lk_killIf, h.tm]
  · simp only [AS.app, h.sg]
  · simp only [AS.app, h.kl]
theorem LEq.lit (h : LEq s t) {u : Nat} {b : Bool} (hb : lk s.tm u = .bool b) : LEq ⟨s.nt, (u, .bool b) :: s.tm, s.sg, s.kl⟩ t := by
  refine ⟨h.nt, fun v => ?_, h.sg, h.kl⟩
  simp only [lk]
  cases hv : Nat.beq u v with
  | true =>
    have := Nat.eq_of_beq_eq_true hv
    subst this
    rw [← h.tm, hb]; rfl
  | false => exact h.tm v
theorem LEq.recs (h : LEq s t) (ops : List Oper) (recs : List Rc) (o : Oper) (e : Ef) : recOf C ops recs s o e = recOf C ops recs t o e := by
  unfold recOf
  rw [h.sg, evs_same (fun x _ => h.ev x)]

theorem stepL_T {ops : List Oper} {K1 : Ef → AS → Prop} {K2 : Ef → Prop} (h : stepL C ops s o K1) (hs : LEq s t) (hk : ∀ e s', LEq s' t → K1 e s' → K2 e) : stepT C ops t o K2 := by
  have key : ∀ s', LEq s' t → (evOp C s' o fun e => K1 e s') → evOp C t o K2 := fun s' hl h1 => by
    rw [evOp_same (s := t) (s' := s') (fun x _ => hl.ev x) hl.sg] at h1
    obtain ⟨a, h2, h3⟩ := evOp_fn C t o _ h1
    exact h3 _ (hk a s' hl h2)
  unfold stepL at h
  unfold stepT
  cases hg : o.guard with
  | none => rw [hg] at h; exact key s hs h
  | some p =>
    obtain ⟨j, want⟩ := p
    rw [hg] at h
    simp only at h ⊢
    cases hd : dstAt ops j with
    | none => rw [hd] at h; exact h.elim
    | some u =>
      rw [hd] at h
      simp only at h ⊢
      cases hl : lk s.tm u <;> rw [hl] at h <;> (try simp only at h) <;> try (exact h.elim)
      rotate_left
      · rename_i l
        cases l with
        | cons _ _ => exact h.elim
        | nil =>
          rw [← hs.tm u, hl]
          exact hk _ _ hs h
      rename_i b
      rw [← hs.tm u, hl]
      simp only
      obtain ⟨nt, tm, sg, kl⟩ := s
      cases want <;> cases b <;> simp only [cond_true, cond_false, brn, litk] at h <;> simp only [cond_true, cond_false, brnT, brn]
      · exact key _ (hs.lit hl) h
      · exact hk _ _ (hs.lit hl) h
      · exact hk _ _ (hs.lit hl) h
      · exact key _ (hs.lit hl) h

theorem evAnyL_any {ops : List Oper} {K : AS → Prop} : ∀ (rest : List Oper) (i : Nat) (recs : List Rc) (s t : AS), LEq s t → evAnyL C ops rest i recs s K → evAny C ops rest i recs t fun x => ∃ y, LEq y x ∧ K y
  | [], _, _, s, t, hs, h => ⟨s, hs, h⟩
  | o :: rest, i, recs, s, t, hs, h => by
    simp only [evAnyL, forceEf_eq, forceRc_eq, forceL_eq, appK_eq] at h
    simp only [evAny, forceEf_eq, forceRc_eq, forceL_eq, appK_eq]
    have hd : dstOk s o.dst = dstOk t o.dst := by unfold dstOk; rw [hs.nt]
    rw [hd] at h
    cases hw : (dstOk t o.dst && edgesLt i o.after.toList) with
    | false => rw [hw] at h; exact h.elim
    | true =>
      rw [hw] at h
      have h : stepL C ops s o (fun e s => whenK (indeps (recOf C ops recs s o e) recs 0) (evAnyL C ops rest (i + 1) (recs ++ [recOf C ops recs s o e]) (s.app o.dst e) K)) := h
      refine stepL_T h hs fun e s' hl hk => ?_
      rw [hl.recs] at hk
      cases hi : indeps (recOf C ops recs t o e) recs 0 with
      | false => rw [hi] at hk; exact hk.elim
      | true =>
        rw [hi] at hk
        exact evAnyL_any rest (i + 1) _ _ _ (hl.app o.dst e) hk

theorem Rel.leq (R : Rel E st g t a w) (h : LEq s t) : Rel E st g s a w where
  nt := by rw [h.nt]; exact R.nt
  df := R.df
  tm := fun u => by rw [h.tm, h.sg]; exact R.tm u
  wr := by rw [h.sg]; exact R.wr

theorem drawnL_sound {id : Nat} {ops : Array Oper} (R : Rel E st g s a w) (hg : GlobOK C.gl st) (G : GoodG C) {Q : Exit → Act → World → Prop} {K : AS → Prop} (h : evAnyL C ops.toList ops.toList 0 [] s K)
    (hK : ∀ s' a' w', K s' → Go C E st g s s' a' w' → Q .normal a' w') : (Code.region id ops true).wp C.P Q a w :=
  drawn_sound R hg G (evAnyL_any _ _ _ _ _ (LEq.refl s) h) fun s' a' w' ⟨y, hy, hk⟩ ⟨st', g', R', hg', A⟩ => hK y a' w' hk ⟨st', g', R'.leq hy, hg', { mono := A.mono, keep := fun i hi hm => A.keep i hi (by rw [← hy.kl]; exact hm), len := by rw [hy.sg]; exact A.len, kl := fun i hi => by rw [hy.kl]; exact A.kl i hi }⟩
end
end Go.VG
