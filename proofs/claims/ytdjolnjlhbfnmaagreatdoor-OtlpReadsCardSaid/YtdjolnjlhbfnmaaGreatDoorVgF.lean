/-
  A part of the proof.
-/
import Derived.Test.YtdjolnjlhbfnmaaGreatDoorVgD
set_option linter.unusedSimpArgs false
set_option linter.unusedVariables false
namespace Go.VG
open Go

def ab {α : Type} (t : Tr α) : Prop := ∀ K : α → Prop, t K → ∃ a, K a ∧ ∀ K' : α → Prop, K' a → t K'

section
variable {α β : Type}
theorem ab.ret (a : α) : ab (ret a) := fun _ h => ⟨a, h, fun _ h => h⟩
theorem ab.fail : ab (fail : Tr α) := fun _ h => h.elim
theorem ab.aN {A : Prop} {t : Tr α} (h : ab t) : ab (aN A t) := fun K hk => let ⟨a, h1, h2⟩ := h K hk.2; ⟨a, h1, fun K' k => ⟨hk.1, h2 K' k⟩⟩
theorem ab.when {b : Bool} {t : Tr α} (h : ab t) : ab (bp b t) := fun K hk => by
 cases b with
 | false => exact hk.elim
 | true => exact h K hk
theorem ab.opt {o : Option α} {f : α → Tr β} (h : ∀ a, ab (f a)) : ab (dw o f) := fun K hk => by
 cases o with
 | none => exact hk.elim
 | some a => exact h a K hk
theorem ab.c8 {b : Bool} {t u : Tr α} (ht : ab t) (hu : ab u) : ab (jD b t u) := fun K hk => by
 cases b with
 | false => exact hu K hk
 | true => exact ht K hk
theorem ab.dv {o : Option α} {h : α → Tr β} {u : Tr β} (hf : ∀ a, ab (h a)) (hu : ab u) : ab (dv o h u) := fun K hk => by
 cases o with
 | none => obtain ⟨a, h1, h2⟩ := hu K (hk.2 rfl); exact ⟨a, h1, fun K' k => ⟨fun _ q => (by cases q), fun _ => h2 K' k⟩⟩
 | some x => obtain ⟨a, h1, h2⟩ := hf x K (hk.1 x rfl); exact ⟨a, h1, fun K' k => ⟨fun _ q => (by cases q; exact h2 K' k), fun q => (by cases q)⟩⟩
theorem ab.idx {l : List α} {n : Nat} {f : α → Tr β} (h : ∀ a, ab (f a)) : ab (mP l n f) := by rw [jN]; exact ab.opt h
theorem ab.bind {t : Tr α} {f : α → Tr β} (ht : ab t) (hf : ∀ a, ab (f a)) : ab (dT t f) := fun K hk => by
 obtain ⟨a, h1, h2⟩ := ht _ hk
 obtain ⟨b, h3, h4⟩ := hf a K h1
 exact ⟨b, h3, fun K' k => h2 _ (h4 K' k)⟩
theorem ab.ex {f : α → Tr β} (h : ∀ a, ab (f a)) : ab (exT f) := fun K ⟨a, hk⟩ => let ⟨b, h1, h2⟩ := h a K hk; ⟨b, h1, fun K' k => ⟨a, h2 K' k⟩⟩
theorem ab.force {x : V} {f : V → Tr α} (h : ∀ x, ab (f x)) : ab (force x f) := by rw [force_eq]; exact h x
theorem ab.bq {x : Nat} {f : Nat → Tr α} (h : ∀ x, ab (f x)) : ab (bq x f) := by rw [de]; exact h x
theorem ab.cK {x : List V} {f : List V → Tr α} (h : ∀ x, ab (f x)) : ab (mH x f) := by rw [rl]; exact h x
theorem ab.cut {a : List α} {r : Option Int × Option Int} {f : List α → Tr β} (h : ∀ x, ab (f x)) : ab (p4 a r f) := by rw [p5]; exact h _
theorem ab.dr (r : Option (Prop × Ef)) : ab (dr r) := by
 refine ab.opt fun p => ab.aN fun K hk => ?_
 rw [iq] at hk
 exact ⟨p.2, hk, fun K' k => by rw [iq]; exact k⟩
end

theorem Br (C : Ctx) (op : BinOp) (t : TypeId) (x y : V) : ab (lv C op t x y) := by
 unfold lv
 repeat' first
  | with_reducible exact ab.ret _
  | with_reducible exact ab.fail
  | with_reducible refine ab.aN ?_
  | with_reducible refine ab.when ?_
  | (with_reducible refine ab.opt fun _ => ?_)
  | (with_reducible refine ab.idx fun _ => ?_)
  | (with_reducible refine ab.cK fun _ => ?_)
  | split
theorem Bw (op : UnOp) (x : V) : ab (rb op x) := by
 unfold rb; split <;> first | with_reducible exact ab.ret _ | with_reducible exact ab.fail
theorem dO (agg : Bool) (size : Nat) (cs : List V) (off : Nat) : ab (gZ agg size cs off) := by
 unfold gZ; split <;> exact ab.opt fun _ => ab.ret _
theorem mg (s : AS) (x : V) : ab (elems s x) := by
 unfold elems
 repeat' first
  | with_reducible exact ab.ret _
  | with_reducible exact ab.fail
  | split
theorem Gi (C : Ctx) (s : AS) (e : TypeId) (x : V) (ys : List V) (rd : List Nat) : ab (mh C s e x ys rd) := by
 unfold mh
 repeat' first
  | with_reducible exact ab.ret _
  | with_reducible exact ab.fail
  | with_reducible refine ab.aN ?_
  | with_reducible refine ab.when ?_
  | (with_reducible refine ab.bq fun _ => ?_)
  | split
theorem Gg (C : Ctx) (s : AS) (e : TypeId) (sz : Nat) (x : V) (ys : List V) (rd : List Nat) : ab (mi C s e sz x ys rd) := by
 unfold mi
 split
 . repeat' first
  | with_reducible exact ab.ret _
  | with_reducible refine ab.aN ?_
  | with_reducible refine ab.when ?_
  | (with_reducible refine ab.bq fun _ => ?_)
 . exact Gi _ _ _ _ _ _
theorem n9 {C : Ctx} {s : AS} {t : TypeId} {m : V} {F : Nat → Bool → List Sc → List (V × Int) → List Nat → Nat → Tr Ef} (h : ∀ i ag sh es bs ck, ab (F i ag sh es bs ck)) : ab (eu C s t m F) := by
 unfold eu
 refine ab.opt fun p => ?_
 split
 . split
   . exact ab.when (h _ _ _ _ _ _)
   . exact ab.fail
 . exact ab.fail
theorem GF (C : Ctx) (s : AS) (t : TypeId) : ab (mu C s t) := by
 unfold mu
 repeat' first
  | with_reducible exact ab.ret _
  | with_reducible exact ab.fail
  | with_reducible refine ab.aN ?_
  | with_reducible refine ab.when ?_
  | (with_reducible refine n9 fun _ _ _ _ _ _ => ?_)
  | (with_reducible refine ab.opt fun _ => ?_)
  | (with_reducible refine ab.dv (fun _ => ?_) ?_)
  | (with_reducible refine ab.idx fun _ => ?_)
  | (with_reducible refine ab.force fun _ => ?_)
  | (with_reducible refine ab.bq fun _ => ?_)
  | (with_reducible refine ab.ex fun _ => ?_)
  | split
theorem GC (C : Ctx) (s : AS) (t : TypeId) (m x : Operand) (ok : Bool) : ab (j7 C s t m x ok) := by
 unfold j7
 repeat' first
  | with_reducible exact ab.ret _
  | with_reducible exact ab.fail
  | with_reducible refine ab.aN ?_
  | with_reducible refine ab.when ?_
  | (with_reducible refine n9 fun _ _ _ _ _ _ => ?_)
  | (with_reducible refine ab.opt fun _ => ?_)
  | (with_reducible refine ab.dv (fun _ => ?_) ?_)
  | (with_reducible refine ab.idx fun _ => ?_)
  | (with_reducible refine ab.force fun _ => ?_)
  | (with_reducible refine ab.bq fun _ => ?_)
  | (with_reducible refine ab.ex fun _ => ?_)
  | split
theorem GI (C : Ctx) (s : AS) (t : TypeId) (m x y : Operand) : ab (my C s t m x y) := by
 unfold my
 repeat' first
  | with_reducible exact ab.ret _
  | with_reducible exact ab.fail
  | with_reducible refine ab.aN ?_
  | with_reducible refine ab.when ?_
  | (with_reducible refine n9 fun _ _ _ _ _ _ => ?_)
  | (with_reducible refine ab.opt fun _ => ?_)
  | (with_reducible refine ab.dv (fun _ => ?_) ?_)
  | (with_reducible refine ab.idx fun _ => ?_)
  | (with_reducible refine ab.force fun _ => ?_)
  | (with_reducible refine ab.bq fun _ => ?_)
  | (with_reducible refine ab.ex fun _ => ?_)
  | split
theorem GH (C : Ctx) (s : AS) (t : TypeId) (m x : Operand) : ab (kA C s t m x) := by
 unfold kA
 repeat' first
  | with_reducible exact ab.ret _
  | with_reducible exact ab.fail
  | with_reducible refine ab.aN ?_
  | with_reducible refine ab.when ?_
  | (with_reducible refine n9 fun _ _ _ _ _ _ => ?_)
  | (with_reducible refine ab.opt fun _ => ?_)
  | (with_reducible refine ab.dv (fun _ => ?_) ?_)
  | (with_reducible refine ab.idx fun _ => ?_)
  | (with_reducible refine ab.force fun _ => ?_)
  | (with_reducible refine ab.bq fun _ => ?_)
  | (with_reducible refine ab.ex fun _ => ?_)
  | split
theorem Gs (C : Ctx) (s : AS) (t : TypeId) (m b y : Operand) : ab (ml C s t m b y) := by
 unfold ml
 repeat' first
  | with_reducible exact ab.ret _
  | with_reducible exact ab.fail
  | with_reducible refine ab.aN ?_
  | with_reducible refine ab.when ?_
  | (with_reducible refine n9 fun _ _ _ _ _ _ => ?_)
  | (with_reducible refine ab.opt fun _ => ?_)
  | (with_reducible refine ab.dv (fun _ => ?_) ?_)
  | (with_reducible refine ab.idx fun _ => ?_)
  | (with_reducible refine ab.force fun _ => ?_)
  | (with_reducible refine ab.bq fun _ => ?_)
  | (with_reducible refine ab.ex fun _ => ?_)
  | split
theorem Gr (C : Ctx) (s : AS) (t : TypeId) (m x : V) : ab (mj C s t m x) := by
 unfold mj
 repeat' first
  | with_reducible exact ab.ret _
  | with_reducible exact ab.fail
  | with_reducible refine ab.aN ?_
  | with_reducible refine ab.when ?_
  | (with_reducible refine n9 fun _ _ _ _ _ _ => ?_)
  | (with_reducible refine ab.opt fun _ => ?_)
  | (with_reducible refine ab.dv (fun _ => ?_) ?_)
  | (with_reducible refine ab.idx fun _ => ?_)
  | (with_reducible refine ab.force fun _ => ?_)
  | (with_reducible refine ab.bq fun _ => ?_)
  | (with_reducible refine ab.ex fun _ => ?_)
  | split
theorem Gz (C : Ctx) (s : AS) (t : TypeId) (m : V) : ab (mr C s t m) := by
 unfold mr
 repeat' first
  | with_reducible exact ab.ret _
  | with_reducible exact ab.fail
  | with_reducible refine ab.aN ?_
  | with_reducible refine ab.when ?_
  | (with_reducible refine n9 fun _ _ _ _ _ _ => ?_)
  | (with_reducible refine ab.opt fun _ => ?_)
  | (with_reducible refine ab.dv (fun _ => ?_) ?_)
  | (with_reducible refine ab.idx fun _ => ?_)
  | (with_reducible refine ab.force fun _ => ?_)
  | (with_reducible refine ab.bq fun _ => ?_)
  | (with_reducible refine ab.ex fun _ => ?_)
  | split
theorem Gt (C : Ctx) (s : AS) (x : Operand) : ab (o6 C s x) := by
 unfold o6
 repeat' first
  | with_reducible exact ab.ret _
  | with_reducible exact ab.fail
  | with_reducible refine ab.aN ?_
  | with_reducible refine ab.when ?_
  | (with_reducible refine n9 fun _ _ _ _ _ _ => ?_)
  | (with_reducible refine ab.opt fun _ => ?_)
  | (with_reducible refine ab.dv (fun _ => ?_) ?_)
  | (with_reducible refine ab.idx fun _ => ?_)
  | (with_reducible refine ab.force fun _ => ?_)
  | (with_reducible refine ab.bq fun _ => ?_)
  | (with_reducible refine ab.ex fun _ => ?_)
  | split
theorem Gp (C : Ctx) (s : AS) (b : Builtin) (ts : List TypeId) (args : List V) : ab (jK C s b ts args) := by
 unfold jK
 repeat' first
  | with_reducible exact ab.ret _
  | with_reducible exact ab.fail
  | with_reducible exact Gg _ _ _ _ _ _ _
  | with_reducible exact Gr _ _ _ _ _
  | with_reducible refine ab.aN ?_
  | with_reducible refine ab.when ?_
  | (with_reducible refine ab.bind (mg _ _) fun _ => ?_)
  | (with_reducible refine ab.bq fun _ => ?_)
  | split
theorem Bt (C : Ctx) (s : AS) (a b : TypeId) (x : V) : ab (iJ C s a b x) := by
 unfold iJ
 repeat' first
  | with_reducible exact ab.ret _
  | with_reducible exact ab.fail
  | with_reducible refine ab.aN ?_
  | with_reducible refine ab.when ?_
  | (with_reducible refine ab.bind (mg _ _) fun _ => ?_)
  | (with_reducible refine ab.ex fun _ => ?_)
  | split
theorem et (C : Ctx) (s : AS) (len : Nat) (lo hi : Option Operand) : ab (gQ C s len lo hi) := by
 unfold gQ
 repeat' first
  | with_reducible exact ab.ret _
  | with_reducible exact ab.fail
  | with_reducible refine ab.aN ?_
  | split

theorem GP (C : Ctx) (s : AS) (c a b : Operand) : ab (pC C s c a b) := by
 unfold pC
 repeat' first
  | with_reducible exact ab.ret _
  | with_reducible exact ab.fail
  | with_reducible exact ab.dr _
  | with_reducible refine ab.aN ?_
  | with_reducible refine ab.when ?_
  | (with_reducible refine ab.opt fun _ => ?_)
  | (with_reducible refine ab.idx fun _ => ?_)
  | (with_reducible refine ab.cK fun _ => ?_)
  | with_reducible refine ab.c8 ?_ ?_
  | (with_reducible refine ab.force fun _ => ?_)
  | (with_reducible refine ab.bq fun _ => ?_)
  | (with_reducible refine ab.cut fun _ => ?_)
  | (with_reducible refine ab.ex fun _ => ?_)
  | (with_reducible refine ab.bind (dO _ _ _ _) fun _ => ?_)
  | (with_reducible refine ab.bind (et _ _ _ _ _) fun _ => ?_)
  | split
theorem Gf (C : Ctx) (s : AS) (t : TypeId) : ab (jI C s t) := by
 unfold jI
 repeat' first
  | with_reducible exact ab.ret _
  | with_reducible exact ab.fail
  | with_reducible exact ab.dr _
  | with_reducible refine ab.aN ?_
  | with_reducible refine ab.when ?_
  | (with_reducible refine ab.opt fun _ => ?_)
  | (with_reducible refine ab.idx fun _ => ?_)
  | (with_reducible refine ab.cK fun _ => ?_)
  | with_reducible refine ab.c8 ?_ ?_
  | (with_reducible refine ab.force fun _ => ?_)
  | (with_reducible refine ab.bq fun _ => ?_)
  | (with_reducible refine ab.cut fun _ => ?_)
  | (with_reducible refine ab.ex fun _ => ?_)
  | (with_reducible refine ab.bind (dO _ _ _ _) fun _ => ?_)
  | (with_reducible refine ab.bind (et _ _ _ _ _) fun _ => ?_)
  | split
theorem Ge (C : Ctx) (s : AS) (d : Option Nat) (t : TypeId) : ab (jJ C s d t) := by
 unfold jJ
 repeat' first
  | with_reducible exact ab.ret _
  | with_reducible exact ab.fail
  | exact Gf _ _ _
  | with_reducible refine ab.when ?_
  | (with_reducible refine ab.force fun _ => ?_)
  | split
theorem Gn (C : Ctx) (s : AS) (t : TypeId) (parts : Array (Nat × Operand)) : ab (o4 C s t parts) := by
 unfold o4
 repeat' first
  | with_reducible exact ab.ret _
  | with_reducible exact ab.fail
  | with_reducible exact ab.dr _
  | with_reducible refine ab.aN ?_
  | with_reducible refine ab.when ?_
  | (with_reducible refine ab.opt fun _ => ?_)
  | (with_reducible refine ab.idx fun _ => ?_)
  | (with_reducible refine ab.cK fun _ => ?_)
  | with_reducible refine ab.c8 ?_ ?_
  | (with_reducible refine ab.force fun _ => ?_)
  | (with_reducible refine ab.bq fun _ => ?_)
  | (with_reducible refine ab.cut fun _ => ?_)
  | (with_reducible refine ab.ex fun _ => ?_)
  | (with_reducible refine ab.bind (dO _ _ _ _) fun _ => ?_)
  | (with_reducible refine ab.bind (et _ _ _ _ _) fun _ => ?_)
  | split
theorem r9 (C : Ctx) (s : AS) (t : TypeId) (len : Nat) (parts : Array (Nat × Operand)) : ab (iI C s t len parts) := by
 unfold iI
 repeat' first
  | with_reducible exact ab.ret _
  | with_reducible exact ab.fail
  | with_reducible exact ab.dr _
  | with_reducible refine ab.aN ?_
  | with_reducible refine ab.when ?_
  | (with_reducible refine ab.opt fun _ => ?_)
  | (with_reducible refine ab.idx fun _ => ?_)
  | (with_reducible refine ab.cK fun _ => ?_)
  | with_reducible refine ab.c8 ?_ ?_
  | (with_reducible refine ab.force fun _ => ?_)
  | (with_reducible refine ab.bq fun _ => ?_)
  | (with_reducible refine ab.cut fun _ => ?_)
  | (with_reducible refine ab.ex fun _ => ?_)
  | (with_reducible refine ab.bind (dO _ _ _ _) fun _ => ?_)
  | (with_reducible refine ab.bind (et _ _ _ _ _) fun _ => ?_)
  | split
theorem GB (C : Ctx) (s : AS) (t : TypeId) (a : Operand) : ab (ly C s t a) := by
 unfold ly
 repeat' first
  | with_reducible exact ab.ret _
  | with_reducible exact ab.fail
  | with_reducible exact ab.dr _
  | with_reducible refine ab.aN ?_
  | with_reducible refine ab.when ?_
  | (with_reducible refine ab.opt fun _ => ?_)
  | (with_reducible refine ab.idx fun _ => ?_)
  | (with_reducible refine ab.cK fun _ => ?_)
  | with_reducible refine ab.c8 ?_ ?_
  | (with_reducible refine ab.force fun _ => ?_)
  | (with_reducible refine ab.bq fun _ => ?_)
  | (with_reducible refine ab.cut fun _ => ?_)
  | (with_reducible refine ab.ex fun _ => ?_)
  | (with_reducible refine ab.bind (dO _ _ _ _) fun _ => ?_)
  | (with_reducible refine ab.bind (et _ _ _ _ _) fun _ => ?_)
  | split
theorem GS (C : Ctx) (s : AS) (t : TypeId) (a x : Operand) : ab (mC C s t a x) := by
 unfold mC
 repeat' first
  | with_reducible exact ab.ret _
  | with_reducible exact ab.fail
  | with_reducible exact ab.dr _
  | with_reducible refine ab.aN ?_
  | with_reducible refine ab.when ?_
  | (with_reducible refine ab.opt fun _ => ?_)
  | (with_reducible refine ab.idx fun _ => ?_)
  | (with_reducible refine ab.cK fun _ => ?_)
  | with_reducible refine ab.c8 ?_ ?_
  | (with_reducible refine ab.force fun _ => ?_)
  | (with_reducible refine ab.bq fun _ => ?_)
  | (with_reducible refine ab.cut fun _ => ?_)
  | (with_reducible refine ab.ex fun _ => ?_)
  | (with_reducible refine ab.bind (dO _ _ _ _) fun _ => ?_)
  | (with_reducible refine ab.bind (et _ _ _ _ _) fun _ => ?_)
  | split
theorem GL (C : Ctx) (s : AS) (x : Operand) : ab (mA C s x) := by
 unfold mA
 repeat' first
  | with_reducible exact ab.ret _
  | with_reducible exact ab.fail
  | with_reducible exact ab.dr _
  | with_reducible refine ab.aN ?_
  | with_reducible refine ab.when ?_
  | (with_reducible refine ab.opt fun _ => ?_)
  | (with_reducible refine ab.idx fun _ => ?_)
  | (with_reducible refine ab.cK fun _ => ?_)
  | with_reducible refine ab.c8 ?_ ?_
  | (with_reducible refine ab.force fun _ => ?_)
  | (with_reducible refine ab.bq fun _ => ?_)
  | (with_reducible refine ab.cut fun _ => ?_)
  | (with_reducible refine ab.ex fun _ => ?_)
  | (with_reducible refine ab.bind (dO _ _ _ _) fun _ => ?_)
  | (with_reducible refine ab.bind (et _ _ _ _ _) fun _ => ?_)
  | split
theorem GD (C : Ctx) (s : AS) (t : TypeId) (x : Operand) : ab (px C s t x) := by
 unfold px
 repeat' first
  | with_reducible exact ab.ret _
  | with_reducible exact ab.fail
  | with_reducible exact ab.dr _
  | with_reducible refine ab.aN ?_
  | with_reducible refine ab.when ?_
  | (with_reducible refine ab.opt fun _ => ?_)
  | (with_reducible refine ab.idx fun _ => ?_)
  | (with_reducible refine ab.cK fun _ => ?_)
  | with_reducible refine ab.c8 ?_ ?_
  | (with_reducible refine ab.force fun _ => ?_)
  | (with_reducible refine ab.bq fun _ => ?_)
  | (with_reducible refine ab.cut fun _ => ?_)
  | (with_reducible refine ab.ex fun _ => ?_)
  | (with_reducible refine ab.bind (dO _ _ _ _) fun _ => ?_)
  | (with_reducible refine ab.bind (et _ _ _ _ _) fun _ => ?_)
  | split
theorem GG (C : Ctx) (s : AS) (t : TypeId) (l c : Operand) : ab (mw C s t l c) := by
 unfold mw
 repeat' first
  | with_reducible exact ab.ret _
  | with_reducible exact ab.fail
  | with_reducible exact ab.dr _
  | with_reducible refine ab.aN ?_
  | with_reducible refine ab.when ?_
  | (with_reducible refine ab.opt fun _ => ?_)
  | (with_reducible refine ab.idx fun _ => ?_)
  | (with_reducible refine ab.cK fun _ => ?_)
  | with_reducible refine ab.c8 ?_ ?_
  | (with_reducible refine ab.force fun _ => ?_)
  | (with_reducible refine ab.bq fun _ => ?_)
  | (with_reducible refine ab.cut fun _ => ?_)
  | (with_reducible refine ab.ex fun _ => ?_)
  | (with_reducible refine ab.bind (dO _ _ _ _) fun _ => ?_)
  | (with_reducible refine ab.bind (et _ _ _ _ _) fun _ => ?_)
  | split
theorem GQ (C : Ctx) (s : AS) (t : TypeId) (x : Operand) (lo hi mx : Option Operand) : ab (oa C s t x lo hi mx) := by
 unfold oa
 repeat' first
  | with_reducible exact ab.ret _
  | with_reducible exact ab.fail
  | with_reducible exact ab.dr _
  | with_reducible refine ab.aN ?_
  | with_reducible refine ab.when ?_
  | (with_reducible refine ab.opt fun _ => ?_)
  | (with_reducible refine ab.idx fun _ => ?_)
  | (with_reducible refine ab.cK fun _ => ?_)
  | with_reducible refine ab.c8 ?_ ?_
  | (with_reducible refine ab.force fun _ => ?_)
  | (with_reducible refine ab.bq fun _ => ?_)
  | (with_reducible refine ab.cut fun _ => ?_)
  | (with_reducible refine ab.ex fun _ => ?_)
  | (with_reducible refine ab.bind (dO _ _ _ _) fun _ => ?_)
  | (with_reducible refine ab.bind (et _ _ _ _ _) fun _ => ?_)
  | split
theorem Gv (C : Ctx) (s : AS) (t : TypeId) (x : Operand) (f : Nat) : ab (mn C s t x f) := by
 unfold mn
 repeat' first
  | with_reducible exact ab.ret _
  | with_reducible exact ab.fail
  | with_reducible exact ab.dr _
  | with_reducible refine ab.aN ?_
  | with_reducible refine ab.when ?_
  | (with_reducible refine ab.opt fun _ => ?_)
  | (with_reducible refine ab.idx fun _ => ?_)
  | (with_reducible refine ab.cK fun _ => ?_)
  | with_reducible refine ab.c8 ?_ ?_
  | (with_reducible refine ab.force fun _ => ?_)
  | (with_reducible refine ab.bq fun _ => ?_)
  | (with_reducible refine ab.cut fun _ => ?_)
  | (with_reducible refine ab.ex fun _ => ?_)
  | (with_reducible refine ab.bind (dO _ _ _ _) fun _ => ?_)
  | (with_reducible refine ab.bind (et _ _ _ _ _) fun _ => ?_)
  | split
theorem Gw (C : Ctx) (s : AS) (t : TypeId) (x : Operand) (f : Nat) : ab (mm C s t x f) := by
 unfold mm
 repeat' first
  | with_reducible exact ab.ret _
  | with_reducible exact ab.fail
  | with_reducible exact ab.dr _
  | with_reducible refine ab.aN ?_
  | with_reducible refine ab.when ?_
  | (with_reducible refine ab.opt fun _ => ?_)
  | (with_reducible refine ab.idx fun _ => ?_)
  | (with_reducible refine ab.cK fun _ => ?_)
  | with_reducible refine ab.c8 ?_ ?_
  | (with_reducible refine ab.force fun _ => ?_)
  | (with_reducible refine ab.bq fun _ => ?_)
  | (with_reducible refine ab.cut fun _ => ?_)
  | (with_reducible refine ab.ex fun _ => ?_)
  | (with_reducible refine ab.bind (dO _ _ _ _) fun _ => ?_)
  | (with_reducible refine ab.bind (et _ _ _ _ _) fun _ => ?_)
  | split
theorem Gx (C : Ctx) (s : AS) (t : TypeId) (x ix : Operand) : ab (o7 C s t x ix) := by
 unfold o7
 repeat' first
  | with_reducible exact ab.ret _
  | with_reducible exact ab.fail
  | with_reducible exact ab.dr _
  | with_reducible refine ab.aN ?_
  | with_reducible refine ab.when ?_
  | (with_reducible refine ab.opt fun _ => ?_)
  | (with_reducible refine ab.idx fun _ => ?_)
  | (with_reducible refine ab.cK fun _ => ?_)
  | with_reducible refine ab.c8 ?_ ?_
  | (with_reducible refine ab.force fun _ => ?_)
  | (with_reducible refine ab.bq fun _ => ?_)
  | (with_reducible refine ab.cut fun _ => ?_)
  | (with_reducible refine ab.ex fun _ => ?_)
  | (with_reducible refine ab.bind (dO _ _ _ _) fun _ => ?_)
  | (with_reducible refine ab.bind (et _ _ _ _ _) fun _ => ?_)
  | split
theorem Gy (C : Ctx) (s : AS) (t : TypeId) (x ix : Operand) : ab (pt C s t x ix) := by
 unfold pt
 repeat' first
  | with_reducible exact ab.ret _
  | with_reducible exact ab.fail
  | with_reducible exact ab.dr _
  | with_reducible refine ab.aN ?_
  | with_reducible refine ab.when ?_
  | (with_reducible refine ab.opt fun _ => ?_)
  | (with_reducible refine ab.idx fun _ => ?_)
  | (with_reducible refine ab.cK fun _ => ?_)
  | with_reducible refine ab.c8 ?_ ?_
  | (with_reducible refine ab.force fun _ => ?_)
  | (with_reducible refine ab.bq fun _ => ?_)
  | (with_reducible refine ab.cut fun _ => ?_)
  | (with_reducible refine ab.ex fun _ => ?_)
  | (with_reducible refine ab.bind (dO _ _ _ _) fun _ => ?_)
  | (with_reducible refine ab.bind (et _ _ _ _ _) fun _ => ?_)
  | split
theorem Gk (C : Ctx) (s : AS) (x : Operand) (t : TypeId) (ok : Bool) : ab (pq C s x t ok) := by
 unfold pq
 repeat' first
  | with_reducible exact ab.ret _
  | with_reducible exact ab.fail
  | with_reducible exact ab.dr _
  | with_reducible refine ab.aN ?_
  | with_reducible refine ab.when ?_
  | (with_reducible refine ab.opt fun _ => ?_)
  | (with_reducible refine ab.idx fun _ => ?_)
  | (with_reducible refine ab.cK fun _ => ?_)
  | with_reducible refine ab.c8 ?_ ?_
  | (with_reducible refine ab.force fun _ => ?_)
  | (with_reducible refine ab.bq fun _ => ?_)
  | (with_reducible refine ab.cut fun _ => ?_)
  | (with_reducible refine ab.ex fun _ => ?_)
  | (with_reducible refine ab.bind (dO _ _ _ _) fun _ => ?_)
  | (with_reducible refine ab.bind (et _ _ _ _ _) fun _ => ?_)
  | split
theorem Gu (C : Ctx) (s : AS) (x : Operand) (i : Nat) : ab (pr C s x i) := by
 unfold pr
 repeat' first
  | with_reducible exact ab.ret _
  | with_reducible exact ab.fail
  | with_reducible exact ab.dr _
  | with_reducible refine ab.aN ?_
  | with_reducible refine ab.when ?_
  | (with_reducible refine ab.opt fun _ => ?_)
  | (with_reducible refine ab.idx fun _ => ?_)
  | (with_reducible refine ab.cK fun _ => ?_)
  | with_reducible refine ab.c8 ?_ ?_
  | (with_reducible refine ab.force fun _ => ?_)
  | (with_reducible refine ab.bq fun _ => ?_)
  | (with_reducible refine ab.cut fun _ => ?_)
  | (with_reducible refine ab.ex fun _ => ?_)
  | (with_reducible refine ab.bind (dO _ _ _ _) fun _ => ?_)
  | (with_reducible refine ab.bind (et _ _ _ _ _) fun _ => ?_)
  | split
theorem GA (C : Ctx) (s : AS) (t : TypeId) (x : Operand) : ab (mq C s t x) := by
 unfold mq
 repeat' first
  | with_reducible exact ab.ret _
  | with_reducible exact ab.fail
  | with_reducible exact Gz _ _ _ _
  | with_reducible exact ab.dr _
  | with_reducible refine ab.aN ?_
  | with_reducible refine ab.when ?_
  | (with_reducible refine ab.opt fun _ => ?_)
  | (with_reducible refine ab.idx fun _ => ?_)
  | (with_reducible refine ab.cK fun _ => ?_)
  | with_reducible refine ab.c8 ?_ ?_
  | (with_reducible refine ab.force fun _ => ?_)
  | (with_reducible refine ab.bq fun _ => ?_)
  | (with_reducible refine ab.cut fun _ => ?_)
  | (with_reducible refine ab.ex fun _ => ?_)
  | (with_reducible refine ab.bind (dO _ _ _ _) fun _ => ?_)
  | (with_reducible refine ab.bind (et _ _ _ _ _) fun _ => ?_)
  | split
theorem GK (C : Ctx) (s : AS) (x : Operand) (b : Bool) : ab (o8 C s x b) := by
 unfold o8
 repeat' first
  | with_reducible exact ab.ret _
  | with_reducible exact ab.fail
  | with_reducible exact ab.dr _
  | with_reducible refine ab.aN ?_
  | with_reducible refine ab.when ?_
  | (with_reducible refine ab.opt fun _ => ?_)
  | (with_reducible refine ab.idx fun _ => ?_)
  | (with_reducible refine ab.cK fun _ => ?_)
  | with_reducible refine ab.c8 ?_ ?_
  | (with_reducible refine ab.force fun _ => ?_)
  | (with_reducible refine ab.bq fun _ => ?_)
  | (with_reducible refine ab.cut fun _ => ?_)
  | (with_reducible refine ab.ex fun _ => ?_)
  | (with_reducible refine ab.bind (dO _ _ _ _) fun _ => ?_)
  | (with_reducible refine ab.bind (et _ _ _ _ _) fun _ => ?_)
  | split
theorem Gq (C : Ctx) (s : AS) (c : Call) : ab (o5 C s c) := by
 unfold o5
 split
 . exact ab.cK fun _ => Gp _ _ _ _ _
 . exact ab.opt fun _ => ab.dr _
 . split
   . exact ab.ex fun _ => ab.aN (ab.dr _)
   . exact ab.fail
theorem Gl (C : Ctx) (s : AS) (dst : Option Nat) (t : TypeId) (len : Nat) (parts : Array (Nat × Operand)) : ab (lr C s dst t len parts) := by
 unfold lr
 split
 . rename_i d
   cases C.lits d
   . exact r9 _ _ _ _ _
   . simp only [cond_true, pw]
     refine ab.bind (r9 _ _ _ _ _) fun e => ?_
     split
     . exact ab.bq fun _ => ab.ret _
     . exact ab.fail
 . exact r9 _ _ _ _ _
theorem GJ (C : Ctx) (s : AS) (a b : TypeId) (x : V) : ab (mz C s a b x) := by
 unfold mz
 split
 . cases Nat.beq a b
   . exact Bt _ _ _ _ _
   . simp only [cond_true]
     split
     . split
       . split
         . exact ab.ret _
         . exact ab.fail
       . exact ab.fail
     . exact ab.fail
 . exact Bt _ _ _ _ _
theorem Gm (C : Ctx) (c : Bool) (op : BinOp) (t : TypeId) (u v : V) : ab (cond c (o9 C op t) (dT (lv C op t u v) fun v => ret (pe v))) := by
 cases c with
 | false =>
   show ab (dT (lv C op t u v) fun v => ret (pe v))
   exact ab.bind (Br C op t u v) fun _ => ab.ret _
 | true =>
   show ab (o9 C op t)
   unfold o9
   split
   . exact ab.ret _
   . exact ab.ret _
   . exact ab.fail
theorem Gj (C : Ctx) (s : AS) (t : TypeId) (x : Operand) : ab (po C s t x) := by
 unfold po
 split
 . exact ab.when (ab.opt fun _ => ab.ret _)
 . exact ab.fail
theorem pA (C : Ctx) (s : AS) (o : Oper) : ab (cr C s o) := by
 unfold cr
 split
 . exact ab.force fun _ => ab.ret _
 . exact ab.force fun _ => ab.ret _
 . exact GP _ _ _ _ _
 . exact Ge _ _ _ _
 . exact ab.force fun _ => ab.bq fun _ => ab.when (ab.ret _)
 . exact Gn _ _ _ _
 . exact Gl _ _ _ _ _ _
 . exact GB _ _ _ _
 . exact GS _ _ _ _ _
 . exact GL _ _ _
 . exact Gm _ _ _ _ _ _
 . exact ab.bind (Bw _ _) fun _ => ab.ret _
 . exact GJ _ _ _ _ _
 . exact GD _ _ _ _
 . exact ab.cK fun _ => ab.cK fun _ => ab.ret _
 . exact GG _ _ _ _ _
 . exact GQ _ _ _ _ _ _ _
 . exact Gv _ _ _ _ _
 . exact Gw _ _ _ _ _
 . exact Gx _ _ _ _ _
 . exact Gy _ _ _ _ _
 . exact Gk _ _ _ _ _
 . exact Gu _ _ _ _
 . exact GA _ _ _ _
 . exact GK _ _ _ _
 . exact GF _ _ _
 . exact GC _ _ _ _ _ _
 . exact GI _ _ _ _ _ _
 . exact GH _ _ _ _ _
 . exact Gs _ _ _ _ _ _
 . exact Gt _ _ _
 . exact Gj _ _ _ _
 . exact Gq _ _ _
 . exact ab.fail

structure Rel (E : Env) (st : St) (g : ay) (s : AS) (a : Act) (w : World) : Prop where
 nt : a.tmps.size = s.nt
 df : a.defers = E.ds
 tm : ∀ t, VR st g (lk s.tm t) s.sg.length (a.tmps.getD t undef)
 wr : aR E st g s.sg w

theorem Pp {k : IntKind} {n : Int} (h : tP k n = true) : k.min ≤ n ∧ n ≤ k.max := by
 unfold tP at h
 split at h
 . cases k <;> simp only [CZ] at h <;> have h' := Nat.le_of_ble_eq_true h <;> simp [IntKind.min, IntKind.max, IntKind.signed, IntKind.bits] <;> omega
 . cases k <;> simp only [D1] at h <;> first
  | (have h' := Nat.le_of_ble_eq_true h; simp [IntKind.min, IntKind.max, IntKind.signed, IntKind.bits]; omega)
  | cases h

theorem D9 {st : St} {g : ay} {n : Nat} (v : Value) : VR st g (ug v) n v := by
 unfold ug
 split
 . rename_i k m
   cases h : tP k m with
   | true => simpa [VR] using Pp h
   | false => simp [VR]
 . simp [VR]
 . rename_i s
   cases h : Nat.ble s.data.toList.length 1048576 with
   | true =>
     have := Nat.le_of_ble_eq_true h
     simp only [cond_true, VR]
     have h3 : s.data.toList.length ≤ maxLen := by unfold maxLen; omega
     simpa [VR] using h3
   | false => simp [VR]
 . simp only [VR]; exact ⟨none, 0, by simp, by simp, by simp [maxLen], by simp, .inl trivial⟩
 . simp [VR]
 . simp [VR]
 . simp [VR]
 . simp [VR]
 . simp [VR]
theorem Da {st : St} {g : ay} {n : Nat} : ∀ vs : List Value, aJ st g (xo vs) n vs
 | [] => cY
 | v :: vs => cg (D9 v) (Da vs)
theorem N4 {st : St} {g : ay} {n : Nat} (v : Value) : VR st g (xn v) n v := by
 unfold xn
 split
 . rename_i cs
   simp only [VR]
   exact ⟨cs, rfl, Da _⟩
 . exact D9 v

theorem aZ {E : Env} {st : St} {g : ay} {s : AS} {a : Act} {w : World} {C : Ctx} (R : Rel E st g s a w) (hg : aW C.gl st) (x : Operand) : VR st g (s.ev C x) s.sg.length (a.eval x) := by
 cases x with
 | tmp t => exact R.tm t
 | const v => exact N4 v
 | global b =>
   simp only [AS.ev, Act.eval]
   split
   . rename_i cs h
     obtain ⟨vs, h1, h2⟩ := hg b cs h g
     simp only [VR]
     exact ⟨b, 0, vs, rfl, h1, fun j hj => by rw [Nat.zero_add]; exact h2 j hj⟩
   . simp [VR]
 | func f =>
   simp only [AS.ev, Act.eval, VR]
   exact ⟨#[], #[], rfl, cY, cY⟩
theorem pE {E : Env} {st : St} {g : ay} {s : AS} {a : Act} {w : World} {C : Ctx} (R : Rel E st g s a w) (hg : aW C.gl st) : ∀ xs : List Operand, aJ st g (s.aX C xs) s.sg.length (xs.map a.eval)
 | [] => cY
 | x :: xs => cg (aZ R hg x) (pE R hg xs)

theorem mW : ∀ (up : List (Nat × O)) (sg : List O), (cF sg up).length = sg.length
 | [], sg => rfl
 | (i, o) :: r, sg => by simp only [cF]; rw [mW r, fQ]; simp
theorem CM (s : AS) (d : Option Nat) (e : Ef) : (s.app d e).sg.length = s.sg.length + e.nw.length := by
 simp [AS.app, sY, mW, ot]

theorem qK {E : Env} {st st' : St} {g g' : ay} {n n' : Nat} {ks : List Nat} (A : gH E st g n st' g' n' ks) {x : V} {v : Value} (h : VR st g x n v) : VR st' g' (x.kill ks) n' v :=
 fu A.mono (fun i hi hn => ⟨Nat.lt_of_lt_of_le hn A.len, A.bm i hn (lB hi).1⟩) (qL h)

theorem Rel.app {E : Env} {st st' : St} {g g' : ay} {s : AS} {a : Act} {w w' : World} {d : Option Nat} {e : Ef} {v : Value} (R : Rel E st g s a w) (hd : dD s d = true)
   (A : gH E st g s.sg.length st' g' (s.app d e).sg.length e.ks) (W : aR E st' g' (s.app d e).sg w') (hv : VR st' g' e.v (s.app d e).sg.length v) : Rel E st' g' (s.app d e) (a.put d v) w' where
 nt := by
  cases d with
  | none => exact R.nt
  | some d => simp [Act.put, AS.app, R.nt]
 df := by cases d <;> exact R.df
 wr := W
 tm := fun t => by
   cases d with
   | none =>
     have h1 : lk (s.app none e).tm t = (lk s.tm t).kill e.ks := by simp only [AS.app]; exact lP _ _ _
     rw [h1]
     exact qK A (R.tm t)
   | some d =>
     have hlt : d < s.nt := by simpa [dD] using hd
     have h1 : lk (s.app (some d) e).tm t = cond (Nat.beq d t) e.v ((lk s.tm t).kill e.ks) := by simp only [AS.app, lk]; rw [lP]
     rw [h1]
     by_cases hdt : d = t
     . subst hdt
       rw [show Nat.beq d d = true from Nat.beq_refl d]
       simp only [cond_true, Act.put]
       rw [show (a.tmps.setIfInBounds d v).getD d undef = v by simp [R.nt, hlt]]
       exact hv
     . rw [show Nat.beq d t = false from by cases hb : Nat.beq d t with | false => rfl | true => exact absurd (Nat.eq_of_beq_eq_true hb) hdt]
       simp only [cond_false, Act.put]
       rw [show (a.tmps.setIfInBounds d v).getD t undef = a.tmps.getD t undef by simp [hdt]]
       exact qK A (R.tm t)

structure Good (C : Ctx) : Prop where
 ti : ∀ t, aM C.P t (C.ti t)
 mt : ∀ t m f, C.mt t m f → ∀ (v : Value) (w : World), (method (C.P.types.size + Made.depth) t v m).run C.P w = .ok (f, v) w
 hm : C.P.follows .mixedOrders = true

def aI (C : Ctx) (E : Env) (st : St) (g : ay) (s : AS) (a : Act) (w : World) (o : Oper) (e : Ef) : Prop :=
 ∀ (next : Act → World → Prop) (Q : Exit → Act → World → Prop), (∀ st' g' w' v, gH E st g s.sg.length st' g' (s.app o.dst e).sg.length e.ks → aR E st' g' (s.app o.dst e).sg w' →
  VR st' g' e.v (s.app o.dst e).sg.length v → next (a.put o.dst v) w') → o.wp C.P a w next Q

section
variable {C : Ctx} {E : Env} {st : St} {g : ay} {s : AS} {a : Act} {w : World} {o : Oper}

theorem aI.val {e : Ef} (v : Value) (w' : World) (st' : St) (g' : ay) (hr : (execOp a.eval o).run C.P w = .ok (.value v) w')
   (A : gH E st g s.sg.length st' g' (s.app o.dst e).sg.length e.ks) (W : aR E st' g' (s.app o.dst e).sg w') (hv : VR st' g' e.v (s.app o.dst e).sg.length v) : aI C E st g s a w o e := by
 intro next Q h
 unfold Oper.wp
 rw [hr]
 exact h st' g' w' v A W hv

theorem aI.skip {e : Ef} (w' : World) (st' : St) (g' : ay) (hr : (execOp a.eval o).run C.P w = .ok .skip w')
   (A : gH E st g s.sg.length st' g' (s.app o.dst e).sg.length e.ks) (W : aR E st' g' (s.app o.dst e).sg w') (hv : VR st' g' e.v (s.app o.dst e).sg.length undef) : aI C E st g s a w o e := by
 intro next Q h
 unfold Oper.wp
 rw [hr]
 exact h st' g' w' undef A W hv

theorem fF (s : AS) (d : Option Nat) (x : V) : (s.app d (pe x)).sg = s.sg := by simp [AS.app, pe, eH, cF, gp]
theorem m5 (s : AS) (d : Option Nat) (x : V) (rd : List Nat) : (s.app d ⟨x, [], [], [], rd⟩).sg = s.sg := by simp [AS.app, eH, cF, gp]

theorem aI.pure {x : V} {rd : List Nat} (R : Rel E st g s a w) (v : Value) (w' : World) (hr : (execOp a.eval o).run C.P w = .ok (.value v) w') (hw : aU w w') (hv : VR st g x s.sg.length v) :
   aI C E st g s a w o ⟨x, [], [], [], rd⟩ := by
 refine aI.val v w' st g hr ⟨fun _ _ _ h => h, fun _ _ _ => rfl, ?_⟩ ?_ ?_
 . rw [m5]; exact Nat.le_refl _
 . rw [m5]; exact R.wr.same hw
 . rw [m5]; exact hv
end
end Go.VG
namespace Go.VG
open Go

section
variable {C : Ctx} {E : Env} {st : St} {g : ay} {s : AS} {a : Act} {w : World} {o : Oper} {e : Ef}

theorem m0 (s : AS) (d : Option Nat) (x : V) (rd : List Nat) (ob : O) : (s.app d ⟨x, [], [], [ob], rd⟩).sg = s.sg ++ [ob] := by simp [AS.app, eH, cF, gp]

theorem aI.new {x : V} {rd : List Nat} {ob : O} (R : Rel E st g s a w) (v : Value) (w1 : World) (hw : aU w w1) (gi : Gh) (oj : Obj)
   (hr : (execOp a.eval o).run C.P w = .ok (.value v) (w1.alloc oj)) (hb : ∀ b, gi.blk = some b → b = w1.heap.size)
   (ho : cX E st (ba g s.sg.length gi) (s.sg.length + 1) (w1.alloc oj) gi ob)
   (hv : VR st (ba g s.sg.length gi) x (s.sg.length + 1) v) : aI C E st g s a w o ⟨x, [], [], [ob], rd⟩ := by
 refine aI.val v _ st (ba g s.sg.length gi) hr ⟨fun _ _ _ h => h, fun i hi _ => cp (Nat.ne_of_lt hi), ?_⟩ ?_ ?_
 . rw [m0]; simp
 . rw [m0]; exact (R.wr.same hw).Fm oj gi ob hb ho
 . rw [m0]; simpa using hv

theorem aI.D2 {rd : List Nat} {cs : List V} (R : Rel E st g s a w) (vs : Array Value) (el : TypeId)
   (hr : (execOp a.eval o).run C.P w = .ok (.value (.pointer (some ⟨w.heap.size, 0, none⟩))) (w.alloc (.cells vs el))) (hc : aJ st g cs s.sg.length vs.toList) :
   aI C E st g s a w o ⟨.ptr s.sg.length 0, [], [], [.cells cs], rd⟩ := by
 refine aI.new R _ w (aU.refl w) ⟨some w.heap.size, none, 0, 0, 0⟩ _ hr (by simp) ?_ ?_
 . refine ⟨w.heap.size, vs, el, (0, 0), rfl, R.wr.gnew _ R.wr.size, heap_alloc_new, ?_, ⟨by simp, by intro o _; simp⟩, R.wr.jw⟩
   exact jz (fun _ _ _ h => h) (fun i _ hi => ⟨by omega, cp (Nat.ne_of_lt hi)⟩) hc
 . simp only [VR]
   exact ⟨by omega, w.heap.size, by simp, rfl⟩

def aa {α : Type} (p : α → Prop) (t : Tr α) : Prop := ∀ e, t (fun b => b = e) → p e
section
variable {α β : Type} {p : α → Prop}
theorem aa.ret {x : α} (h : p x) : aa p (ret x) := by rintro _ ⟨⟩; exact h
theorem aa.fail : aa p fail := fun _ h => h.elim
theorem aa.aN {A : Prop} {t : Tr α} (h : A → aa p t) : aa p (aN A t) := fun e he => h he.1 e he.2
theorem aa.when {b : Bool} {t : Tr α} (h : b = true → aa p t) : aa p (bp b t) := fun e he => by
 cases b with
 | false => exact he.elim
 | true => exact h rfl e he
theorem aa.opt {x : Option β} {f : β → Tr α} (h : ∀ y, x = some y → aa p (f y)) : aa p (dw x f) := fun e he => by
 cases x with
 | none => exact he.elim
 | some y => exact h y rfl e he
theorem aa.c8 {b : Bool} {t u : Tr α} (ht : b = true → aa p t) (hu : b = false → aa p u) : aa p (jD b t u) := fun e he => by
 cases b with
 | false => exact hu rfl e he
 | true => exact ht rfl e he
theorem aa.dv {x : Option β} {f : β → Tr α} {u : Tr α} (h : ∀ y, x = some y → aa p (f y)) (hu : x = none → aa p u) : aa p (dv x f u) := fun e he => by
 cases hx : x with
 | none => exact hu hx e (he.2 hx)
 | some y => exact h y hx e (he.1 y hx)
theorem aa.ex {f : β → Tr α} (h : ∀ y, aa p (f y)) : aa p (exT f) := fun e ⟨y, he⟩ => h y e he
theorem aa.bind {t : Tr β} {f : β → Tr α} (ht : ab t) (h : ∀ y, (∀ K : β → Prop, K y → t K) → aa p (f y)) : aa p (dT t f) := fun e he => by
 obtain ⟨y, h1, h2⟩ := ht _ he
 exact h y h2 e h1
end
abbrev cf (C : Ctx) (E : Env) (st : St) (g : ay) (s : AS) (a : Act) (w : World) (o : Oper) (t : Tr Ef) : Prop := aa (aI C E st g s a w o) t

theorem DZ {x : Operand} (R : Rel E st g s a w) (hg : aW C.gl st) (ho : o.op = .move x ∨ o.op = .assign x) : cf C E st g s a w o (force (s.ev C x) fun x => ret (pe x)) := by
 rw [force_eq]
 exact aa.ret (aI.pure R (a.eval x) w (by rcases ho with ho | ho <;> simp [execOp, ho]) (aU.refl w) (aZ R hg x))

theorem Oq {c x y : Operand} (R : Rel E st g s a w) (hg : aW C.gl st) (ho : o.op = .pick c x y) : cf C E st g s a w o (pC C s c x y) := by
 unfold pC
 have hc := aZ R hg c
 split
 . rename_i t ht
   rw [ht] at hc
   simp only [VR] at hc
   simp only [force_eq]
   have hx := aZ R hg x
   have hy := aZ R hg y
   have hr : (execOp a.eval o).run C.P w = .ok (.value (if t then a.eval x else a.eval y)) w := by simp [execOp, ho, hc, asBool]
   split
   . rename_i bx bY h1 h2
     refine aa.ret (aI.pure R _ w hr (aU.refl w) ?_)
     rw [h1] at hx; rw [h2] at hy
     cases t
     . simpa [VR] using hy
     . simpa [VR] using hx
   . refine aa.c8 (fun h => ?_) (fun h => ?_)
     . subst h; exact aa.ret (aI.pure R _ w hr (aU.refl w) (by simpa using hx))
     . subst h; exact aa.ret (aI.pure R _ w hr (aU.refl w) (by simpa using hy))
 . exact aa.fail

theorem DY {t : TypeId} (R : Rel E st g s a w) (G : Good C) (ho : o.op = .alloc t) : cf C E st g s a w o (jI C s t) := by
 unfold jI
 split
 . exact aa.fail
 . rename_i hk
   simp only [force_eq, de]
   refine aa.when fun hu => aa.ret ?_
   obtain ⟨z, hz, hz'⟩ := uB w (G.ti t) (fun h => hk h)
   refine aI.D2 R z.cells t ?_ (gJ (hz' st g _) (by simpa using hu))
   simp [execOp, ho, Instr.alloc, hz, newVar, newRow]

theorem s_box {t : TypeId} {x : Operand} (R : Rel E st g s a w) (hg : aW C.gl st) (ho : o.op = .box t x) :
   cf C E st g s a w o (force (s.ev C x) fun x => bq s.sg.length fun n => bp (!x.dz) (ret ⟨.ptr n 0, [], [], [.cells x.cells], []⟩)) := by
 simp only [force_eq, de]
 refine aa.when fun hu => aa.ret ?_
 refine aI.D2 R (a.eval x).cells t ?_ (gJ (aZ R hg x) (by simpa using hu))
 simp [execOp, ho, Instr.box, newVar, newRow]

theorem Dq {agg : Bool} {size off : Nat} {cs : List V} {v : V} (h : ∀ K : V → Prop, K v → gZ agg size cs off K) :
   (agg = true ∧ (size = 0 ∨ off + size ≤ cs.length) ∧ v = .agg ((cs.drop off).take size)) ∨ (agg = false ∧ cs[off]? = some v) := by
 have h := h (fun x => x = v) rfl
 unfold gZ at h
 cases agg
 . cases hr : ja cs off with
   | none => simp only [dw, hr, fk] at h
   | some r =>
     simp only [dw, hr, fk] at h
     rw [tL] at hr
     cases h
     exact .inr ⟨rfl, hr⟩
 . cases hr : gk (ik cs off) size with
   | none => simp only [dw, hr, fk] at h
   | some r =>
     simp only [dw, hr, fk] at h
     obtain ⟨h1, h2⟩ := vm hr
     rw [qZ] at h1 h2
     subst h1
     cases h
     simp only [List.length_drop] at h2
     exact .inl ⟨rfl, by omega, rfl⟩

theorem uz {t : TypeId} {b o : Nat} {cs : List V} {vs : List Value} {v : V} {n : Nat} (G : Good C) (hk : (C.ti t).k ≠ .other) (hc : aJ st g cs n vs)
   (hw : ∀ j, j < vs.length → w.cell? ⟨b, o + j, none⟩ = vs[j]?) {off : Nat} (h : ∀ K : V → Prop, K v → gZ (C.ti t).k.isAgg (C.ti t).size cs off K) :
   ∃ u, (loadVar t ⟨b, o + off, none⟩).run C.P w = .ok u w ∧ VR st g v n u := by
 rcases Dq h with ⟨h1, h2, rfl⟩ | ⟨h1, h2⟩
 . have hl := eD hc
   have hlen : (C.ti t).size = ((vs.drop off).take (C.ti t).size).length := by simp; omega
   refine ⟨.agg ((vs.drop off).take (C.ti t).size).toArray, ?_, ?_⟩
   . have := run_loadCells_list (P := C.P) w ⟨b, o + off, none⟩ ((vs.drop off).take (C.ti t).size) (fun j v hj => by
       rw [Addr.add_lit]
       rw [List.getElem?_take] at hj
       split at hj
       . rw [List.getElem?_drop] at hj
         have hlt : off + j < vs.length := by
          rcases Nat.lt_or_ge (off + j) vs.length with h' | h'
          . exact h'
          . simp [List.getElem?_eq_none h'] at hj
         have := hw (off + j) hlt
         rw [hj] at this
         rw [Nat.add_assoc]; exact this
       . cases hj)
     rw [← hlen] at this
     simp [loadVar, ux w (G.ti t) hk, h1, fB w (G.ti t) hk, this]
   . simp only [VR]
     exact ⟨_, rfl, by simpa using qS (qP hc)⟩
 . obtain ⟨u, h3, h4⟩ := nH hc h2
   have hlt : off < vs.length := by
    rcases Nat.lt_or_ge off vs.length with h' | h'
    . exact h'
    . simp [List.getElem?_eq_none h'] at h3
   refine ⟨u, ?_, h4⟩
   have := hw off hlt
   rw [h3] at this
   simp [loadVar, ux w (G.ti t) hk, h1, this]

theorem DX {t : TypeId} {cs : List V} {vs : Array Value} {v : V} {n off : Nat} (G : Good C) (hk : (C.ti t).k ≠ .other) (hc : aJ st g cs n vs.toList)
   (h : ∀ K : V → Prop, K v → gZ (C.ti t).k.isAgg (C.ti t).size cs off K) : ∃ u, (part t vs off).run C.P w = .ok u w ∧ VR st g v n u := by
 rcases Dq h with ⟨h1, h2, rfl⟩ | ⟨h1, h2⟩
 . refine ⟨.agg (vs.extract off (off + (C.ti t).size)), ?_, ?_⟩
   . simp [part, ux w (G.ti t) hk, h1, fB w (G.ti t) hk]
   . simp only [VR]
     refine ⟨_, rfl, ?_⟩
     rw [Array.toList_extract, List.extract_eq_take_drop]
     simpa using qS (qP hc)
 . obtain ⟨u, h3, h4⟩ := nH hc h2
   refine ⟨u, ?_, h4⟩
   have h3' : vs[off]? = some u := by simpa using h3
   simp [part, ux w (G.ti t) hk, h1, h3']

theorem vV {E : Env} {sg : List O} (W : aR E st g sg w) {i : Nat} {cs : List V} (hi : sg[i]? = some (.cells cs)) : ∃ b c el fr, (g i).blk = some b ∧ E.G b ∧ w.heap[b]? = some (.cells c el fr) ∧ aJ st g cs sg.length c.toList ∧ mF c fr ∧ ∀ o, st b o = none :=
 W.ob i _ hi

theorem Ob {t : TypeId} {x : Operand} (R : Rel E st g s a w) (hg : aW C.gl st) (G : Good C) (ho : o.op = .load t x) : cf C E st g s a w o (ly C s t x) := by
 unfold ly
 simp only [jN]
 split
 . exact aa.fail
 rename_i hk
 have hk : (C.ti t).k ≠ .other := fun h => hk h
 have hx := aZ R hg x
 split
 . rename_i cs off he
   rw [he] at hx
   simp only [VR] at hx
   obtain ⟨b, of, vs, h1, h2, h3⟩ := hx
   refine aa.bind (dO _ _ _ _) fun v hv => ?_
   rw [force_eq]
   have hcell : ∀ j, j < vs.length → w.cell? ⟨b, of + j, none⟩ = vs[j]? := fun j hj => by
    have h4 := h3 j hj
    rw [List.getElem?_eq_getElem hj] at h4 ⊢
    exact R.wr.stw _ _ _ h4
   obtain ⟨u, h5, h6⟩ := uz (w := w) (b := b) (o := of) G hk h2 hcell hv
   refine aa.ret (aI.pure R u w ?_ (aU.refl w) (fu (fun _ _ _ h => h) (fun i _ hi => absurd hi (Nat.not_lt_zero _)) h6))
   simp [execOp, ho, Instr.loadAt, h1, Instr.sureAddr, h5]
 . rename_i i off he
   rw [he] at hx
   simp only [VR] at hx
   obtain ⟨hi, b, hb, h1⟩ := hx
   split
   . rename_i cs hs
     obtain ⟨hs1, _⟩ := dY hs (by simp)
     obtain ⟨b', c, el, fr, k1, k2, k3, k4, k5, k6⟩ := vV R.wr hs1
     rw [hb] at k1; cases k1
     refine aa.bind (dO _ _ _ _) fun v hv => ?_
     rw [force_eq]
     have hcell : ∀ j, j < c.toList.length → w.cell? ⟨b, 0 + j, none⟩ = c.toList[j]? := fun j hj => by rw [eF k3]; simp
     obtain ⟨u, h5, h6⟩ := uz (w := w) (b := b) (o := 0) G hk k4 hcell hv
     refine aa.ret (aI.pure R u w ?_ (aU.refl w) h6)
     rw [Nat.zero_add] at h5
     simp [execOp, ho, Instr.loadAt, h1, Instr.sureAddr, h5]
   . exact aa.fail
 . rename_i i idx off he
   rw [he] at hx
   simp only [VR] at hx
   obtain ⟨hi, b, hb, h1⟩ := hx
   split
   . rename_i sz pre l hs
     obtain ⟨hs1, _⟩ := dY hs (by simp)
     obtain ⟨q1, q2, q3, q4, q5, q6, q7⟩ := R.wr.ob i _ hs1
     refine aa.opt fun y hy => aa.when fun hu => aa.bind (dO _ _ _ _) fun v hv => ?_
     rw [force_eq]
     rcases q7 with ⟨_, q7⟩ | ⟨b', c, el, fr, k1, k2, k3, k4, k5, k6, _⟩
     . rw [hb] at q7; cases q7
     . rw [hb] at k1; cases k1
       obtain ⟨u, r1, r2, r3, r4⟩ := eW.1 k6 idx y hy
       have r5 := gJ r1 (by simpa using hu)
       have hcell : ∀ j, j < u.cells.toList.length → w.cell? ⟨b, idx * sz + j, none⟩ = u.cells.toList[j]? := fun j hj => by
        rw [eF k4]
        have := r4 j (by rw [← r2]; simpa using hj)
        rw [Nat.zero_add] at this
        simpa using this
       obtain ⟨u', h5, h6⟩ := uz (w := w) (b := b) (o := idx * sz) G hk r5 hcell hv
       refine aa.ret (aI.pure R u' w ?_ (aU.refl w) (fu (fun _ _ _ h => h) (fun i _ hi => absurd hi (Nat.not_lt_zero _)) h6))
       rw [q2] at h1
       simp [execOp, ho, Instr.loadAt, h1, Instr.sureAddr, h5]
   . exact aa.fail
 . exact aa.fail

theorem Oo {x : Operand} (R : Rel E st g s a w) (hg : aW C.gl st) (ho : o.op = .nilCheck x) : cf C E st g s a w o (mA C s x) := by
 unfold mA
 have hx := aZ R hg x
 split
 all_goals first
  | exact aa.fail
  | skip
 all_goals
  rename_i he
  rw [he] at hx
  have hx' := hx
  simp only [VR] at hx
 . obtain ⟨_, b, _, h1⟩ := hx
   exact aa.ret (aI.pure R (a.eval x) w (by simp [execOp, ho, h1]) (aU.refl w) hx')
 . obtain ⟨_, b, _, h1⟩ := hx
   exact aa.ret (aI.pure R (a.eval x) w (by simp [execOp, ho, h1]) (aU.refl w) hx')
 . obtain ⟨b, _, _, h1, _⟩ := hx
   exact aa.ret (aI.pure R (a.eval x) w (by simp [execOp, ho, h1]) (aU.refl w) hx')
 . obtain ⟨b, _, h1, _⟩ := hx
   exact aa.ret (aI.pure R (a.eval x) w (by simp [execOp, ho, h1]) (aU.refl w) hx')
 . obtain ⟨b, h1, _⟩ := hx
   exact aa.ret (aI.pure R (a.eval x) w (by simp [execOp, ho, h1]) (aU.refl w) hx')

theorem Oe {t : TypeId} {x : Operand} (R : Rel E st g s a w) (hg : aW C.gl st) (G : Good C) (ho : o.op = .makeInterface t x) : cf C E st g s a w o (px C s t x) := by
 unfold px
 split
 . exact aa.fail
 . exact aa.fail
 . rename_i h1 h2
   rw [force_eq]
   refine aa.when fun hu => aa.ret ?_
   refine aI.pure R (.iface t (a.eval x)) w ?_ (aU.refl w) (by simp only [VR]; exact ⟨_, rfl, aZ R hg x⟩)
   obtain ⟨h3, _⟩ := (G.ti t).of (fun h => h1 h)
   cases hk' : (C.ti t).k <;> rw [hk'] at h3 <;> simp only [TK.ok] at h3
   case struct fs => obtain ⟨f, h3, _⟩ := h3; simp [execOp, ho, Instr.makeInterface, run_underlying h3]
   case iface => exact absurd hk' (fun h => h2 h)
   case func => obtain ⟨p, q, r, h3⟩ := h3; simp [execOp, ho, Instr.makeInterface, run_underlying h3]
   all_goals simp [execOp, ho, Instr.makeInterface, run_underlying h3]

theorem Od {fn : Fn} {xs ys : Array Operand} (R : Rel E st g s a w) (hg : aW C.gl st) (ho : o.op = .makeFunc fn xs ys) :
   cf C E st g s a w o (mH (s.aX C xs.toList) fun a => mH (s.aX C ys.toList) fun b => ret (pe (.func fn a b))) := by
 simp only [rl]
 refine aa.ret (aI.pure R (.func fn (xs.map a.eval) (ys.map a.eval)) w (by simp [execOp, ho, Instr.makeFunc]) (aU.refl w) ?_)
 simp only [VR]
 exact ⟨_, _, rfl, by simpa using pE R hg xs.toList, by simpa using pE R hg ys.toList⟩

theorem O4 {x : Operand} {i : Nat} (R : Rel E st g s a w) (hg : aW C.gl st) (ho : o.op = .extract x i) : cf C E st g s a w o (pr C s x i) := by
 unfold pr
 have hx := aZ R hg x
 split
 . rename_i vs he
   rw [he] at hx
   simp only [VR] at hx
   obtain ⟨us, h1, h2⟩ := hx
   refine aa.opt fun v hv => ?_
   rw [force_eq]
   rw [tL] at hv
   obtain ⟨u, h3, h4⟩ := nH h2 hv
   have h3' : us[i]? = some u := by simpa using h3
   exact aa.ret (aI.pure R u w (by simp [execOp, ho, h1, Instr.extract, h3']) (aU.refl w) h4)
 . exact aa.fail

theorem BN : ∀ {fs : List (Nat × TypeId)} {i : Nat} {x : Nat × TypeId}, kF fs i = some x → fs[i]? = some x
 | [], i, x, h => by simp [kF] at h
 | y :: ys, 0, x, h => by simpa [kF] using h
 | y :: ys, i + 1, x, h => by simpa [kF] using BN (fs := ys) (by simpa [kF] using h)
theorem wa {fields : Array Field} {fs : List (Nat × TypeId)} (h : fields.toList.map (fun f => (f.offset, f.type)) = fs) {i : Nat} {x : Nat × TypeId} (hx : kF fs i = some x) :
   ∃ f, fields[i]? = some f ∧ f.offset = x.1 ∧ f.type = x.2 := by
 have := BN hx
 rw [← h, List.getElem?_map] at this
 cases hf : fields.toList[i]? with
 | none => rw [hf] at this; cases this
 | some f => rw [hf] at this; cases this; exact ⟨f, by simpa using hf, rfl, rfl⟩

theorem O5 {t : TypeId} {x : Operand} {f : Nat} (R : Rel E st g s a w) (hg : aW C.gl st) (G : Good C) (ho : o.op = .field t x f) : cf C E st g s a w o (mm C s t x f) := by
 unfold mm
 have hx := aZ R hg x
 split
 . rename_i fs cs hk he
   rw [he] at hx
   simp only [VR] at hx
   obtain ⟨us, h1, h2⟩ := hx
   obtain ⟨h3, _⟩ := (G.ti t).of (by rw [hk]; simp)
   rw [hk] at h3
   obtain ⟨fields, h3, h4, _⟩ := h3
   refine aa.opt fun ft hft => ?_
   split
   . exact aa.fail
   rename_i hk2
   refine aa.bind (dO _ _ _ _) fun v hv => ?_
   rw [force_eq]
   obtain ⟨fd, h5, h6, h7⟩ := wa h4 hft
   obtain ⟨u, h8, h9⟩ := DX (w := w) G (fun h => hk2 h) h2 hv
   refine aa.ret (aI.pure R u w ?_ (aU.refl w) h9)
   simp [execOp, ho, Instr.field, run_underlying h3, h5, h1, asAgg, h6, h7, h8]
 . exact aa.fail

theorem O6 {t : TypeId} {x : Operand} {f : Nat} (R : Rel E st g s a w) (hg : aW C.gl st) (G : Good C) (ho : o.op = .fieldAddr t x f) : cf C E st g s a w o (mn C s t x f) := by
 unfold mn
 have hx := aZ R hg x
 split
 . rename_i fs hk
   obtain ⟨h3, _⟩ := (G.ti t).of (by rw [hk]; simp)
   rw [hk] at h3
   obtain ⟨fields, h3, h4, _⟩ := h3
   refine aa.opt fun ft hft => ?_
   split
   . exact aa.fail
   rename_i hk2
   refine aa.when fun hsz => ?_
   obtain ⟨fd, h5, h6, h7⟩ := wa h4 hft
   have hsz' := Nat.le_of_ble_eq_true hsz
   have hs0 : ¬ (C.ti fd.type).size = 0 := by rw [h7]; omega
   have hrs := fB w (G.ti fd.type) (by rw [h7]; exact fun h => hk2 h)
   have hr : ∀ ad : Addr, a.eval x = .pointer (some ad) → (execOp a.eval o).run C.P w = .ok (.value (.pointer (some (ad.add ft.1)))) w := fun ad had => by
    simp [execOp, ho, Instr.fieldAt, run_underlying h3, h5, had, Instr.sureAddr, fieldPlace, hrs, hs0, h6]
   split
   . rename_i i off he
     rw [he] at hx
     simp only [VR] at hx
     obtain ⟨hi, b, hb, h1⟩ := hx
     rw [de]
     refine aa.ret (aI.pure R _ w (hr _ h1) (aU.refl w) ?_)
     simp only [VR]
     exact ⟨hi, b, hb, by rw [Addr.add_lit]⟩
   . rename_i i j off he
     rw [he] at hx
     simp only [VR] at hx
     obtain ⟨hi, b, hb, h1⟩ := hx
     rw [de]
     refine aa.ret (aI.pure R _ w (hr _ h1) (aU.refl w) ?_)
     simp only [VR]
     exact ⟨hi, b, hb, by rw [Addr.add_lit, Nat.add_assoc]⟩
   . rename_i cs off he
     rw [he] at hx
     simp only [VR] at hx
     obtain ⟨b, of, vs, h1, h2, h8⟩ := hx
     rw [de]
     refine aa.ret (aI.pure R _ w (hr _ h1) (aU.refl w) ?_)
     simp only [VR]
     exact ⟨b, of, vs, by rw [Addr.add_lit, Nat.add_assoc], h2, h8⟩
   . exact aa.fail
 . exact aa.fail
end
end Go.VG
