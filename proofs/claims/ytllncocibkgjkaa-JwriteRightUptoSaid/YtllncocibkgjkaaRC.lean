/-
  A part of the proof.
-/
import Derived.Test.YtllncocibkgjkaaJTb
import Derived.Test.YtllncocibkgjkaaPDec
import Derived.Test.YtllncocibkgjkaaJWm
import Derived.Test.YtllncocibkgjkaaRB
set_option linter.unusedSimpArgs false
set_option linter.unusedVariables false
set_option maxHeartbeats 4000000
namespace Go.Proofs.Ytllncocibkgjkaa
open Go Go.VG
set_option maxRecDepth 100000
theorem wP (n : Nat) : ∀ c ∈ dec n, bM c = true := by
 induction n using Nat.strongRecOn with
 | ind n ih =>
   intro c hc
   have hd : ∀ m, m < 10 → bM (digit m) = true := fun m hm => by
    have : m = 0 ∨ m = 1 ∨ m = 2 ∨ m = 3 ∨ m = 4 ∨ m = 5 ∨ m = 6 ∨ m = 7 ∨ m = 8 ∨ m = 9 := by omega
    rcases this with h | h | h | h | h | h | h | h | h | h <;> (subst h; decide)
   by_cases h : n < 10
   . rw [dec_lt h, List.mem_singleton] at hc; rw [hc]; exact hd n h
   . rw [qh h] at hc
     rcases List.mem_append.1 hc with hc | hc
     . exact ih _ (by omega) c hc
     . rw [List.mem_singleton] at hc; rw [hc]; exact hd _ (by omega)
theorem BM (n : Nat) (h : 0 < n) : ((dec n).getD 0 0).toNat ≠ 48 := by
 induction n using Nat.strongRecOn with
 | ind n ih =>
   by_cases h1 : n < 10
   . rw [dec_lt h1]
     have : n = 1 ∨ n = 2 ∨ n = 3 ∨ n = 4 ∨ n = 5 ∨ n = 6 ∨ n = 7 ∨ n = 8 ∨ n = 9 := by omega
     rcases this with q | q | q | q | q | q | q | q | q <;> (subst q; decide)
   . rw [qh h1]
     have hp := qi (n / 10)
     rw [List.getD_eq_getElem?_getD, List.getElem?_append_left (by omega), ← List.getD_eq_getElem?_getD]
     exact ih _ (by omega) (by omega)
theorem A5 : ∀ (l : List UInt8) (p : List UInt8), (∀ c ∈ l, bM c = true) → ea (p ++ l) p.length = p.length + l.length
 | [], p, _ => by rw [List.append_nil]; exact m8 (.inl (Nat.le_refl _))
 | c :: l, p, h => by
   have e : p ++ c :: l = (p ++ [c]) ++ l := by simp
   rw [nC (by simp) (by rw [List.getD_eq_getElem?_getD, List.getElem?_append_right (Nat.le_refl _)]; simpa using h c List.mem_cons_self), e]
   have := A5 l (p ++ [c]) fun x hx => h x (List.mem_cons_of_mem _ hx)
   rw [List.length_append, List.length_singleton] at this
   rw [this, List.length_cons]; omega
theorem zq (p : List UInt8) (n : Nat) (hp : p = [] ∨ p = [45]) : cR (p ++ dec n) 0 = ((p ++ dec n).length, 0) := by
 have hd := wP n
 have hpos := qi n
 have hs : bJ (p ++ dec n) 0 45 45 = p.length := by
  unfold bJ
  rcases hp with rfl | rfl
  . rw [if_neg]; rfl
    rw [gW]
    intro q
    have h0 : bM ((dec n).getD 0 0) = true := hd _ (by
     rw [List.getD_eq_getElem?_getD, List.getElem?_eq_getElem (by omega)]
     exact List.getElem_mem _)
    have := jv.1 h0
    have q2 := q.2
    rw [List.nil_append] at q2
    omega
  . rw [if_pos]; rfl
    rw [gW]
    exact ⟨by simp, .inl rfl⟩
 have hr := A5 (dec n) p hd
 have hat : (p ++ dec n).getD p.length 0 = (dec n).getD 0 0 := by
  rw [List.getD_eq_getElem?_getD, List.getElem?_append_right (Nat.le_refl _), Nat.sub_self, ← List.getD_eq_getElem?_getD]
 have hend : ∀ a b, eu (p ++ dec n) (p ++ dec n).length a b = false := fun a b => by
  rw [tY]; omega
 have hw : bd (p ++ dec n) 0 = ((p ++ dec n).length, 0) := by
  unfold bd
  rw [hs]
  by_cases h0 : n = 0
  . subst h0
    have e : dec 0 = [48] := by rw [dec_lt (by decide)]; rfl
    rw [if_pos (by rw [gW, hat, e]; exact ⟨by rw [List.length_append]; simp, .inl rfl⟩), e, List.length_append]; rfl
  . rw [if_neg (by rw [gW, hat]; intro q; exact BM n (by omega) (by rcases q.2 with z | z <;> exact z))]
    unfold cH
    rw [hr, if_pos (by omega), List.length_append]
 unfold cR
 rw [hw]
 have hb : bZ (p ++ dec n) ((p ++ dec n).length, 0) = ((p ++ dec n).length, 0) := by
  unfold bZ
  rw [if_neg (fun q => by have := q.2; rw [hend] at this; cases this)]
 rw [hb]
 unfold gG
 rw [if_neg (fun q => by have := q.2; rw [hend] at this; cases this)]
theorem G8 (n : Int) : isNum (eD n) := by
 unfold eD
 split
 . refine ⟨by simp, ?_, .inl rfl⟩
   exact zq [45] n.natAbs (.inr rfl)
 . have hpos := qi n.toNat
   refine ⟨by omega, ?_, .inr (wP n.toNat _ ?_)⟩
   . have := zq [] n.toNat (.inl rfl)
     rw [List.nil_append] at this; exact this
   . rw [List.getD_eq_getElem?_getD, List.getElem?_eq_getElem (by omega)]
     exact List.getElem_mem _
end Go.Proofs.Ytllncocibkgjkaa
namespace Go.Proofs.Ytllncocibkgjkaa
open Go Go.VG
set_option maxRecDepth 100000
theorem l5 (out : List UInt8) (l : List Fr) (f : Fr) (wh : Bool) : WS.top ⟨out, l ++ [f], wh, 0⟩ = f := by
 simp [WS.top]
theorem uz (out : List UInt8) (l : List Fr) (f g : Fr) (wh : Bool) : WS.eI ⟨out, l ++ [f], wh, 0⟩ g = ⟨out, l ++ [g], wh, 0⟩ := by
 simp [WS.eI]
theorem zd (out : List UInt8) : WS.may ⟨out, [], true, 0⟩ = (⟨out, [], true, 12⟩, false) := by simp [WS.may, WS.fail]
theorem ze (out : List UInt8) (l : List Fr) (b : Bool) : WS.may ⟨out, l ++ [⟨123 + 2, b, false⟩], true, 0⟩ = (⟨out, l ++ [⟨123 + 2, b, false⟩], true, 12⟩, false) := by
 unfold WS.may WS.fail
 rw [l5]
 simp
theorem zf (out : List UInt8) (l : List Fr) (b : Bool) : WS.may ⟨out, l ++ [⟨123 + 2, b, true⟩], true, 0⟩ = (⟨out, l ++ [⟨123 + 2, b, false⟩], true, 0⟩, true) := by
 unfold WS.may
 rw [l5, uz]
 simp
theorem zb (out : List UInt8) (l : List Fr) (b k : Bool) : WS.may ⟨out, l ++ [⟨91 + 2, b, k⟩], true, 0⟩ = (⟨if b = true then out ++ [44] else out, l ++ [⟨91 + 2, true, k⟩], true, 0⟩, true) := by
 unfold WS.may
 rw [l5]
 simp [uz]
theorem E8 (out : List UInt8) (l : List Fr) (e : UInt8) (b : Bool) : WS.fin ⟨out, l ++ [⟨e, b, true⟩], true, 0⟩ = ⟨out, l ++ [⟨e, b, true⟩], true, 12⟩ := by
 unfold WS.fin WS.fail
 rw [l5]
 simp
theorem xt (out : List UInt8) (l : List Fr) (e : UInt8) (b : Bool) : WS.fin ⟨out, l ++ [⟨e, b, false⟩], true, 0⟩ = ⟨out ++ [e], l, true, 0⟩ := by
 unfold WS.fin
 rw [l5]
 simp
theorem Fj (out s : List UInt8) (l : List Fr) (b : Bool) : WS.key ⟨out, l ++ [⟨123 + 2, b, true⟩], true, 0⟩ s = ⟨out, l ++ [⟨123 + 2, b, true⟩], true, 12⟩ := by
 unfold WS.key WS.fail
 rw [l5]
 simp
theorem Fi (out s : List UInt8) (l : List Fr) (b : Bool) : WS.key ⟨out, l ++ [⟨123 + 2, b, false⟩], true, 0⟩ s = ⟨(if b = true then out ++ [44] else out) ++ (quote s ++ [58]), l ++ [⟨123 + 2, true, true⟩], true, 0⟩ := by
 unfold WS.key
 rw [l5]
 simp [uz]
theorem Fh (out s : List UInt8) (l : List Fr) (b k : Bool) : WS.key ⟨out, l ++ [⟨91 + 2, b, k⟩], true, 0⟩ s = ⟨out, l ++ [⟨91 + 2, b, k⟩], true, 12⟩ := by
 unfold WS.key WS.fail
 rw [l5]
 simp
def wA (l : List di) (i : Nat) : WS := (l.take i).foldl WS.op .new
theorem Ih {α : Type} [Inhabited α] {l : List α} {i : Nat} (h : i < l.length) : l.take (i + 1) = l.take i ++ [l.getD i default] := by
 rw [List.take_add_one, List.getD_eq_getElem?_getD, List.getElem?_eq_getElem h]; rfl
theorem vB {l : List di} {i : Nat} (h : i < l.length) : wA l (i + 1) = (wA l i).op (l.getD i default) := by
 unfold wA; rw [Ih h, List.foldl_append]; rfl
theorem Gg (w : WS) (o : di) (h : w.l.length ≤ 32) : (w.op o).l.length ≤ 32 := by
 have h1 := eR w
 unfold WS.op WS.begin WS.fin WS.key WS.put WS.fail WS.eI
 repeat' split
 all_goals ((try simp only [List.length_append, List.length_cons, List.length_nil, List.length_set, List.length_take]) <;> omega)
end Go.Proofs.Ytllncocibkgjkaa
namespace Go.Proofs.Ytllncocibkgjkaa
open Go Go.VG
set_option maxRecDepth 100000
def fI (l : List It) : List UInt8 := if l = [] then [] else [44]
theorem wL (g : It → List UInt8) (x : It) : ∀ (l : List It) (i : Nat), aC g (l ++ [x]) i = aC g l i ++ ((if i + l.length = 0 then [] else [44]) ++ g x)
 | [], i => by show _ ++ (g x ++ []) = [] ++ _; rw [List.append_nil]; rfl
 | y :: l, i => by
   show _ ++ (g y ++ aC g (l ++ [x]) (i + 1)) = (_ ++ (g y ++ aC g l (i + 1))) ++ _
   rw [wL g x l (i + 1), if_neg (show ¬ i + 1 + l.length = 0 by omega), if_neg (show ¬ i + (y :: l).length = 0 by rw [List.length_cons]; omega)]
   simp only [List.append_assoc]
theorem wM (g : It → List UInt8) (l : List It) (x : It) : aC g (l ++ [x]) 0 = aC g l 0 ++ (fI l ++ g x) := by
 rw [wL, Nat.zero_add]
 unfold fI
 cases l with
 | nil => rfl
 | cons y l => rw [if_neg (by simp), if_neg (by simp)]
inductive Fx : Nat → List UInt8 → List Fr → Prop
 | nil : Fx 32 [] []
 | lst (d : Nat) (o : List UInt8) (f : List Fr) (l : List It) (h : Fx (d + 1) o f) (hl : ∀ x ∈ l, TG d x.2) : Fx d (o ++ 91 :: (aC bc l 0 ++ fI l)) (f ++ [⟨91 + 2, true, false⟩])
 | obj (d : Nat) (o : List UInt8) (f : List Fr) (l : List It) (s : List UInt8) (h : Fx (d + 1) o f) (hl : ∀ x ∈ l, TG d x.2) : Fx d (o ++ 123 :: (aC aN l 0 ++ (fI l ++ (quote s ++ [58])))) (f ++ [⟨123 + 2, true, false⟩])
theorem Fx.len {d : Nat} {o : List UInt8} {f : List Fr} (h : Fx d o f) : f.length + d = 32 := by
 induction h with
 | nil => rfl
 | lst d o f l h hl ih => rw [List.length_append, List.length_singleton]; omega
 | obj d o f l s h hl ih => rw [List.length_append, List.length_singleton]; omega
inductive WI : WS → Prop
 | new : WI ⟨[], [], false, 0⟩
 | bad (w : WS) (h : w.code ≠ 0) : WI w
 | all (x : List UInt8) (h : TG 32 x) : WI ⟨x, [], true, 0⟩
 | lst (d : Nat) (o : List UInt8) (f : List Fr) (l : List It) (h : Fx (d + 1) o f) (hl : ∀ x ∈ l, TG d x.2) : WI ⟨o ++ 91 :: aC bc l 0, f ++ [⟨91 + 2, decide (l ≠ []), false⟩], true, 0⟩
 | obj (d : Nat) (o : List UInt8) (f : List Fr) (l : List It) (h : Fx (d + 1) o f) (hl : ∀ x ∈ l, TG d x.2) : WI ⟨o ++ 123 :: aC aN l 0, f ++ [⟨123 + 2, decide (l ≠ []), false⟩], true, 0⟩
 | key (d : Nat) (o : List UInt8) (f : List Fr) (l : List It) (s : List UInt8) (h : Fx (d + 1) o f) (hl : ∀ x ∈ l, TG d x.2) : WI ⟨o ++ 123 :: (aC aN l 0 ++ (fI l ++ (quote s ++ [58]))), f ++ [⟨123 + 2, true, true⟩], true, 0⟩
theorem Fx.val {d : Nat} {o x : List UInt8} {f : List Fr} (h : Fx d o f) (hx : TG d x) : WI ⟨o ++ x, f, true, 0⟩ := by
 cases h with
 | nil => exact .all x hx
 | lst _ o f l h hl =>
   have := WI.lst d o f (l ++ [([], x)]) h fun y hy => by
    rcases List.mem_append.1 hy with hy | hy
    . exact hl y hy
    . rw [List.mem_singleton.1 hy]; exact hx
   rw [wM, show decide (l ++ [(([], x) : It)] ≠ []) = true by simp] at this
   have e : o ++ 91 :: (aC bc l 0 ++ (fI l ++ bc ([], x))) = (o ++ 91 :: (aC bc l 0 ++ fI l)) ++ x := by simp [bc]
   rw [← e]; exact this
 | obj _ o f l s h hl =>
   have := WI.obj d o f (l ++ [([⟨0, s, [], 0⟩], x)]) h fun y hy => by
    rcases List.mem_append.1 hy with hy | hy
    . exact hl y hy
    . rw [List.mem_singleton.1 hy]; exact hx
   rw [wM, show decide (l ++ [(([⟨0, s, [], 0⟩], x) : It)] ≠ []) = true by simp] at this
   have e : o ++ 123 :: (aC aN l 0 ++ (fI l ++ aN ([⟨0, s, [], 0⟩], x))) = (o ++ 123 :: (aC aN l 0 ++ (fI l ++ (quote s ++ [58])))) ++ x := by simp [aN, gu]
   rw [← e]; exact this
theorem wK (l : List It) (o : List UInt8) : (if decide (l ≠ []) = true then o ++ [44] else o) = o ++ fI l := by
 unfold fI
 by_cases h : l = []
 . rw [if_neg (by simp [h]), if_pos h, List.append_nil]
 . rw [if_pos (by simp [h]), if_neg h]
theorem WI.may {w : WS} (h : WI w) (hm : w.may.2 = true) : ∃ d o f, w.may.1 = ⟨o, f, true, 0⟩ ∧ Fx d o f := by
 cases h with
 | new => exact ⟨_, _, _, rfl, .nil⟩
 | bad _ h => unfold WS.may at hm; rw [if_pos h] at hm; cases hm
 | all x h => rw [zd] at hm; cases hm
 | lst d o f l h hl =>
   rw [zb]
   refine ⟨d, _, _, rfl, ?_⟩
   rw [wK]
   have := Fx.lst d o f l h hl
   rw [show (o ++ 91 :: aC bc l 0) ++ fI l = o ++ 91 :: (aC bc l 0 ++ fI l) by simp]
   exact this
 | obj d o f l h hl => rw [ze] at hm; cases hm
 | key d o f l s h hl =>
   rw [zf]
   exact ⟨d, _, _, rfl, .obj d o f l s h hl⟩
theorem zc {w : WS} (h : WI w) (hm : ¬ w.may.2 = true) : WI w.may.1 := by
 cases h with
 | new => exact absurd rfl hm
 | bad w h => exact .bad _ (by unfold WS.may; rw [if_pos h]; exact h)
 | all x h => rw [zd]; exact .bad _ (show (12 : Int) ≠ 0 by decide)
 | lst d o f l h hl => rw [zb] at hm; exact absurd rfl hm
 | obj d o f l h hl => rw [ze]; exact .bad _ (show (12 : Int) ≠ 0 by decide)
 | key d o f l s h hl => rw [zf] at hm; exact absurd rfl hm
theorem WI.put {w : WS} (h : WI w) {x : List UInt8} (hx : ∀ d, TG d x) : WI (w.put x) := by
 unfold WS.put
 by_cases hm : w.may.2 = true
 . rw [if_pos hm]
   obtain ⟨d, o, f, e, hf⟩ := h.may hm
   rw [e]
   exact hf.val (hx d)
 . rw [if_neg hm]; exact zc h hm
theorem WI.begin {w : WS} (h : WI w) {a e : UInt8} (ha : (a = 91 ∧ e = 91 + 2) ∨ (a = 123 ∧ e = 123 + 2)) : WI (w.begin a e) := by
 unfold WS.begin
 by_cases h0 : w.code ≠ 0
 . rw [if_pos h0]; exact .bad _ h0
 rw [if_neg h0]
 by_cases h1 : w.l.length ≥ 32
 . rw [if_pos h1]
   refine .bad _ ?_
   unfold WS.fail
   rw [if_pos (by omega)]
   show (33 : Int) ≠ 0; decide
 rw [if_neg h1]
 by_cases hm : w.may.2 = true
 . rw [if_pos hm]
   have hl := (eR w).2
   obtain ⟨d, o, f, e1, hf⟩ := h.may hm
   rw [e1] at hl ⊢
   have := hf.len
   have hl : f.length = w.l.length := hl
   obtain ⟨d, rfl⟩ : ∃ k, d = k + 1 := ⟨d - 1, by omega⟩
   rcases ha with ⟨rfl, rfl⟩ | ⟨rfl, rfl⟩
   . exact .lst d o f [] hf fun x hx => by cases hx
   . exact .obj d o f [] hf fun x hx => by cases hx
 . rw [if_neg hm]; exact zc h hm
theorem WI.fin {w : WS} (h : WI w) : WI w.fin := by
 cases h with
 | new => exact .bad _ (show (12 : Int) ≠ 0 by decide)
 | bad w h => unfold WS.fin; rw [if_pos h]; exact .bad _ h
 | all x h => exact .bad _ (show (12 : Int) ≠ 0 by decide)
 | lst d o f l h hl =>
   rw [xt, show (o ++ 91 :: aC bc l 0) ++ [91 + 2] = o ++ 91 :: (aC bc l 0 ++ [93]) by simp]
   exact h.val (.lst d l hl)
 | obj d o f l h hl =>
   rw [xt, show (o ++ 123 :: aC aN l 0) ++ [123 + 2] = o ++ 123 :: (aC aN l 0 ++ [125]) by simp]
   exact h.val (.obj d l hl)
 | key d o f l s h hl => rw [E8]; exact .bad _ (show (12 : Int) ≠ 0 by decide)
theorem WI.keyed {w : WS} (h : WI w) (s : List UInt8) : WI (w.key s) := by
 cases h with
 | new => exact .bad _ (show (12 : Int) ≠ 0 by decide)
 | bad w h => unfold WS.key; rw [if_pos h]; exact .bad _ h
 | all x h => exact .bad _ (show (12 : Int) ≠ 0 by decide)
 | lst d o f l h hl => rw [Fh]; exact .bad _ (show (12 : Int) ≠ 0 by decide)
 | obj d o f l h hl =>
   rw [Fi, wK, show (o ++ 123 :: aC aN l 0 ++ fI l) ++ (quote s ++ [58]) = o ++ 123 :: (aC aN l 0 ++ (fI l ++ (quote s ++ [58]))) by simp]
   exact .key d o f l s h hl
 | key d o f l s h hl => rw [Fj]; exact .bad _ (show (12 : Int) ≠ 0 by decide)
theorem TG.a8 (d : Nat) (s : List UInt8) : TG d (quote s) := by
 by_cases h : gP s
 . exact .leaf d 115 s (.inl ⟨rfl, h⟩) (by decide)
 . exact .bad d s h
theorem WI.op {w : WS} (h : WI w) (o : di) : WI (w.op o) := by
 unfold WS.op
 repeat' split
 . exact h.begin (.inr ⟨rfl, rfl⟩)
 . exact h.begin (.inl ⟨rfl, rfl⟩)
 . exact h.fin
 . exact h.keyed _
 . exact h.put fun d => .a8 d _
 . exact h.put fun d => .leaf d 110 (eD o.n) (.inr (.inl ⟨rfl, G8 o.n⟩)) (by decide)
 . refine h.put fun d => ?_
   unfold iM
   split
   . exact .leaf d 116 [] (.inr (.inr (.inr ⟨.inl rfl, rfl⟩))) (by decide)
   . exact .leaf d 102 [] (.inr (.inr (.inr ⟨.inr (.inl rfl), rfl⟩))) (by decide)
 . exact h.put fun d => .leaf d 122 [] (.inr (.inr (.inr ⟨.inr (.inr rfl), rfl⟩))) (by decide)
theorem AV (l : List di) : ∀ i, i ≤ l.length → WI (wA l i)
 | 0, _ => .new
 | i + 1, hi => by
   rw [vB (by omega)]
   exact (AV l i (by omega)).op _
theorem WI.doneT {w : WS} (h : WI w) (h0 : w.done.2 = 0) : TG 32 w.done.1 := by
 cases h with
 | new => unfold WS.done at h0; cases h0
 | bad w h => unfold WS.done at h0; rw [if_pos h] at h0; exact absurd h0 h
 | all x h => exact h
 | lst d o f l h hl =>
   unfold WS.done at h0
   rw [if_neg (by simp), if_pos (.inl (by simp))] at h0; cases h0
 | obj d o f l h hl =>
   unfold WS.done at h0
   rw [if_neg (by simp), if_pos (.inl (by simp))] at h0; cases h0
 | key d o f l s h hl =>
   unfold WS.done at h0
   rw [if_neg (by simp), if_pos (.inl (by simp))] at h0; cases h0
theorem BO {w : WS} (h : w.done.2 ≠ 0) : w.done.1 = [] := by
 unfold WS.done at h ⊢
 repeat' split
 . rfl
 . rfl
 . rename_i a b; rw [if_neg a, if_neg b] at h; exact absurd rfl h
end Go.Proofs.Ytllncocibkgjkaa
