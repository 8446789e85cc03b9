/-
  A part of the proof.
-/
import Derived.Test.YtipejldppicijaaGreatDoorVgD
set_option linter.unusedSimpArgs false
set_option linter.unusedVariables false
namespace Go.VG
open Go

def a6 {α : Type} (t : Tr α) : Prop := ∀ K : α → Prop, t K → ∃ a, K a ∧ ∀ K' : α → Prop, K' a → t K'

section
variable {α β : Type}
theorem a6.ret (a : α) : a6 (ret a) := fun _ h => ⟨a, h, fun _ h => h⟩
theorem a6.fail : a6 (fail : Tr α) := fun _ h => h.elim
theorem a6.au {A : Prop} {t : Tr α} (h : a6 t) : a6 (au A t) := fun K hk => let ⟨a, h1, h2⟩ := h K hk.2; ⟨a, h1, fun K' k => ⟨hk.1, h2 K' k⟩⟩
theorem a6.when {b : Bool} {t : Tr α} (h : a6 t) : a6 (aT b t) := fun K hk => by
 cases b with
 | false => exact hk.elim
 | true => exact h K hk
theorem a6.opt {o : Option α} {f : α → Tr β} (h : ∀ a, a6 (f a)) : a6 (cA o f) := fun K hk => by
 cases o with
 | none => exact hk.elim
 | some a => exact h a K hk
theorem a6.bc {b : Bool} {t u : Tr α} (ht : a6 t) (hu : a6 u) : a6 (gM b t u) := fun K hk => by
 cases b with
 | false => exact hu K hk
 | true => exact ht K hk
theorem a6.cm {o : Option α} {h : α → Tr β} {u : Tr β} (hf : ∀ a, a6 (h a)) (hu : a6 u) : a6 (cm o h u) := fun K hk => by
 cases o with
 | none => obtain ⟨a, h1, h2⟩ := hu K (hk.2 rfl); exact ⟨a, h1, fun K' k => ⟨fun _ q => (by cases q), fun _ => h2 K' k⟩⟩
 | some x => obtain ⟨a, h1, h2⟩ := hf x K (hk.1 x rfl); exact ⟨a, h1, fun K' k => ⟨fun _ q => (by cases q; exact h2 K' k), fun q => (by cases q)⟩⟩
theorem a6.idx {l : List α} {n : Nat} {f : α → Tr β} (h : ∀ a, a6 (f a)) : a6 (jR l n f) := by rw [gS]; exact a6.opt h
theorem a6.bind {t : Tr α} {f : α → Tr β} (ht : a6 t) (hf : ∀ a, a6 (f a)) : a6 (cX t f) := fun K hk => by
 obtain ⟨a, h1, h2⟩ := ht _ hk
 obtain ⟨b, h3, h4⟩ := hf a K h1
 exact ⟨b, h3, fun K' k => h2 _ (h4 K' k)⟩
theorem a6.ex {f : α → Tr β} (h : ∀ a, a6 (f a)) : a6 (exT f) := fun K ⟨a, hk⟩ => let ⟨b, h1, h2⟩ := h a K hk; ⟨b, h1, fun K' k => ⟨a, h2 K' k⟩⟩
theorem a6.force {x : V} {f : V → Tr α} (h : ∀ x, a6 (f x)) : a6 (force x f) := by rw [force_eq]; exact h x
theorem a6.aS {x : Nat} {f : Nat → Tr α} (h : ∀ x, a6 (f x)) : a6 (aS x f) := by rw [cj]; exact h x
theorem a6.bF {x : List V} {f : List V → Tr α} (h : ∀ x, a6 (f x)) : a6 (jL x f) := by rw [o4]; exact h x
theorem a6.cut {a : List α} {r : Option Int × Option Int} {f : List α → Tr β} (h : ∀ x, a6 (f x)) : a6 (nQ a r f) := by rw [nR]; exact h _
theorem a6.c9 (r : Option (Prop × Ef)) : a6 (c9 r) := by
 refine a6.opt fun p => a6.au fun K hk => ?_
 rw [fz] at hk
 exact ⟨p.2, hk, fun K' k => by rw [fz]; exact k⟩
end

theorem wH (C : Ctx) (op : BinOp) (t : TypeId) (x y : V) : a6 (iQ C op t x y) := by
 unfold iQ
 repeat' first
  | with_reducible exact a6.ret _
  | with_reducible exact a6.fail
  | with_reducible refine a6.au ?_
  | with_reducible refine a6.when ?_
  | (with_reducible refine a6.opt fun _ => ?_)
  | (with_reducible refine a6.idx fun _ => ?_)
  | (with_reducible refine a6.bF fun _ => ?_)
  | split
theorem wM (op : UnOp) (x : V) : a6 (nX op x) := by
 unfold nX; split <;> first | with_reducible exact a6.ret _ | with_reducible exact a6.fail
theorem cE (agg : Bool) (size : Nat) (cs : List V) (off : Nat) : a6 (eW agg size cs off) := by
 unfold eW; split <;> exact a6.opt fun _ => a6.ret _
theorem jo (s : AS) (x : V) : a6 (elems s x) := by
 unfold elems
 repeat' first
  | with_reducible exact a6.ret _
  | with_reducible exact a6.fail
  | split
theorem Bi (C : Ctx) (s : AS) (e : TypeId) (x : V) (ys : List V) (rd : List Nat) : a6 (ju C s e x ys rd) := by
 unfold ju
 repeat' first
  | with_reducible exact a6.ret _
  | with_reducible exact a6.fail
  | with_reducible refine a6.au ?_
  | with_reducible refine a6.when ?_
  | (with_reducible refine a6.aS fun _ => ?_)
  | split
theorem ka {C : Ctx} {s : AS} {t : TypeId} {m : V} {F : Nat → Bool → List Sc → List (V × Int) → List Nat → Nat → Tr Ef} (h : ∀ i ag sh es bs ck, a6 (F i ag sh es bs ck)) : a6 (d8 C s t m F) := by
 unfold d8
 refine a6.opt fun p => ?_
 split
 . split
   . exact a6.when (h _ _ _ _ _ _)
   . exact a6.fail
 . exact a6.fail
theorem BE (C : Ctx) (s : AS) (t : TypeId) : a6 (jB C s t) := by
 unfold jB
 repeat' first
  | with_reducible exact a6.ret _
  | with_reducible exact a6.fail
  | with_reducible refine a6.au ?_
  | with_reducible refine a6.when ?_
  | (with_reducible refine ka fun _ _ _ _ _ _ => ?_)
  | (with_reducible refine a6.opt fun _ => ?_)
  | (with_reducible refine a6.cm (fun _ => ?_) ?_)
  | (with_reducible refine a6.idx fun _ => ?_)
  | (with_reducible refine a6.force fun _ => ?_)
  | (with_reducible refine a6.aS fun _ => ?_)
  | (with_reducible refine a6.ex fun _ => ?_)
  | split
theorem BC (C : Ctx) (s : AS) (t : TypeId) (m x : Operand) (ok : Bool) : a6 (gd C s t m x ok) := by
 unfold gd
 repeat' first
  | with_reducible exact a6.ret _
  | with_reducible exact a6.fail
  | with_reducible refine a6.au ?_
  | with_reducible refine a6.when ?_
  | (with_reducible refine ka fun _ _ _ _ _ _ => ?_)
  | (with_reducible refine a6.opt fun _ => ?_)
  | (with_reducible refine a6.cm (fun _ => ?_) ?_)
  | (with_reducible refine a6.idx fun _ => ?_)
  | (with_reducible refine a6.force fun _ => ?_)
  | (with_reducible refine a6.aS fun _ => ?_)
  | (with_reducible refine a6.ex fun _ => ?_)
  | split
theorem BH (C : Ctx) (s : AS) (t : TypeId) (m x y : Operand) : a6 (jD C s t m x y) := by
 unfold jD
 repeat' first
  | with_reducible exact a6.ret _
  | with_reducible exact a6.fail
  | with_reducible refine a6.au ?_
  | with_reducible refine a6.when ?_
  | (with_reducible refine ka fun _ _ _ _ _ _ => ?_)
  | (with_reducible refine a6.opt fun _ => ?_)
  | (with_reducible refine a6.cm (fun _ => ?_) ?_)
  | (with_reducible refine a6.idx fun _ => ?_)
  | (with_reducible refine a6.force fun _ => ?_)
  | (with_reducible refine a6.aS fun _ => ?_)
  | (with_reducible refine a6.ex fun _ => ?_)
  | split
theorem BG (C : Ctx) (s : AS) (t : TypeId) (m x : Operand) : a6 (i9 C s t m x) := by
 unfold i9
 repeat' first
  | with_reducible exact a6.ret _
  | with_reducible exact a6.fail
  | with_reducible refine a6.au ?_
  | with_reducible refine a6.when ?_
  | (with_reducible refine ka fun _ _ _ _ _ _ => ?_)
  | (with_reducible refine a6.opt fun _ => ?_)
  | (with_reducible refine a6.cm (fun _ => ?_) ?_)
  | (with_reducible refine a6.idx fun _ => ?_)
  | (with_reducible refine a6.force fun _ => ?_)
  | (with_reducible refine a6.aS fun _ => ?_)
  | (with_reducible refine a6.ex fun _ => ?_)
  | split
theorem Bq (C : Ctx) (s : AS) (t : TypeId) (m b y : Operand) : a6 (jw C s t m b y) := by
 unfold jw
 repeat' first
  | with_reducible exact a6.ret _
  | with_reducible exact a6.fail
  | with_reducible refine a6.au ?_
  | with_reducible refine a6.when ?_
  | (with_reducible refine ka fun _ _ _ _ _ _ => ?_)
  | (with_reducible refine a6.opt fun _ => ?_)
  | (with_reducible refine a6.cm (fun _ => ?_) ?_)
  | (with_reducible refine a6.idx fun _ => ?_)
  | (with_reducible refine a6.force fun _ => ?_)
  | (with_reducible refine a6.aS fun _ => ?_)
  | (with_reducible refine a6.ex fun _ => ?_)
  | split
theorem Bp (C : Ctx) (s : AS) (t : TypeId) (m x : V) : a6 (jv C s t m x) := by
 unfold jv
 repeat' first
  | with_reducible exact a6.ret _
  | with_reducible exact a6.fail
  | with_reducible refine a6.au ?_
  | with_reducible refine a6.when ?_
  | (with_reducible refine ka fun _ _ _ _ _ _ => ?_)
  | (with_reducible refine a6.opt fun _ => ?_)
  | (with_reducible refine a6.cm (fun _ => ?_) ?_)
  | (with_reducible refine a6.idx fun _ => ?_)
  | (with_reducible refine a6.force fun _ => ?_)
  | (with_reducible refine a6.aS fun _ => ?_)
  | (with_reducible refine a6.ex fun _ => ?_)
  | split
theorem Bx (C : Ctx) (s : AS) (t : TypeId) (m : V) : a6 (jA C s t m) := by
 unfold jA
 repeat' first
  | with_reducible exact a6.ret _
  | with_reducible exact a6.fail
  | with_reducible refine a6.au ?_
  | with_reducible refine a6.when ?_
  | (with_reducible refine ka fun _ _ _ _ _ _ => ?_)
  | (with_reducible refine a6.opt fun _ => ?_)
  | (with_reducible refine a6.cm (fun _ => ?_) ?_)
  | (with_reducible refine a6.idx fun _ => ?_)
  | (with_reducible refine a6.force fun _ => ?_)
  | (with_reducible refine a6.aS fun _ => ?_)
  | (with_reducible refine a6.ex fun _ => ?_)
  | split
theorem Br (C : Ctx) (s : AS) (x : Operand) : a6 (l0 C s x) := by
 unfold l0
 repeat' first
  | with_reducible exact a6.ret _
  | with_reducible exact a6.fail
  | with_reducible refine a6.au ?_
  | with_reducible refine a6.when ?_
  | (with_reducible refine ka fun _ _ _ _ _ _ => ?_)
  | (with_reducible refine a6.opt fun _ => ?_)
  | (with_reducible refine a6.cm (fun _ => ?_) ?_)
  | (with_reducible refine a6.idx fun _ => ?_)
  | (with_reducible refine a6.force fun _ => ?_)
  | (with_reducible refine a6.aS fun _ => ?_)
  | (with_reducible refine a6.ex fun _ => ?_)
  | split
theorem Bn (C : Ctx) (s : AS) (b : Builtin) (ts : List TypeId) (args : List V) : a6 (gP C s b ts args) := by
 unfold gP
 repeat' first
  | with_reducible exact a6.ret _
  | with_reducible exact a6.fail
  | with_reducible exact Bi _ _ _ _ _ _
  | with_reducible exact Bp _ _ _ _ _
  | with_reducible refine a6.au ?_
  | with_reducible refine a6.when ?_
  | (with_reducible refine a6.bind (jo _ _) fun _ => ?_)
  | (with_reducible refine a6.aS fun _ => ?_)
  | split
theorem wJ (C : Ctx) (s : AS) (a b : TypeId) (x : V) : a6 (fT C s a b x) := by
 unfold fT
 repeat' first
  | with_reducible exact a6.ret _
  | with_reducible exact a6.fail
  | with_reducible refine a6.au ?_
  | with_reducible refine a6.when ?_
  | (with_reducible refine a6.bind (jo _ _) fun _ => ?_)
  | (with_reducible refine a6.ex fun _ => ?_)
  | split
theorem dh (C : Ctx) (s : AS) (len : Nat) (lo hi : Option Operand) : a6 (fw C s len lo hi) := by
 unfold fw
 repeat' first
  | with_reducible exact a6.ret _
  | with_reducible exact a6.fail
  | with_reducible refine a6.au ?_
  | split

theorem BN (C : Ctx) (s : AS) (c a b : Operand) : a6 (mr C s c a b) := by
 unfold mr
 repeat' first
  | with_reducible exact a6.ret _
  | with_reducible exact a6.fail
  | with_reducible exact a6.c9 _
  | with_reducible refine a6.au ?_
  | with_reducible refine a6.when ?_
  | (with_reducible refine a6.opt fun _ => ?_)
  | (with_reducible refine a6.idx fun _ => ?_)
  | (with_reducible refine a6.bF fun _ => ?_)
  | with_reducible refine a6.bc ?_ ?_
  | (with_reducible refine a6.force fun _ => ?_)
  | (with_reducible refine a6.aS fun _ => ?_)
  | (with_reducible refine a6.cut fun _ => ?_)
  | (with_reducible refine a6.ex fun _ => ?_)
  | (with_reducible refine a6.bind (cE _ _ _ _) fun _ => ?_)
  | (with_reducible refine a6.bind (dh _ _ _ _ _) fun _ => ?_)
  | split
theorem Bh (C : Ctx) (s : AS) (t : TypeId) : a6 (jt C s t) := by
 unfold jt
 repeat' first
  | with_reducible exact a6.ret _
  | with_reducible exact a6.fail
  | with_reducible exact a6.c9 _
  | with_reducible refine a6.au ?_
  | with_reducible refine a6.when ?_
  | (with_reducible refine a6.opt fun _ => ?_)
  | (with_reducible refine a6.idx fun _ => ?_)
  | (with_reducible refine a6.bF fun _ => ?_)
  | with_reducible refine a6.bc ?_ ?_
  | (with_reducible refine a6.force fun _ => ?_)
  | (with_reducible refine a6.aS fun _ => ?_)
  | (with_reducible refine a6.cut fun _ => ?_)
  | (with_reducible refine a6.ex fun _ => ?_)
  | (with_reducible refine a6.bind (cE _ _ _ _) fun _ => ?_)
  | (with_reducible refine a6.bind (dh _ _ _ _ _) fun _ => ?_)
  | split
theorem Bm (C : Ctx) (s : AS) (t : TypeId) (parts : Array (Nat × Operand)) : a6 (kY C s t parts) := by
 unfold kY
 repeat' first
  | with_reducible exact a6.ret _
  | with_reducible exact a6.fail
  | with_reducible exact a6.c9 _
  | with_reducible refine a6.au ?_
  | with_reducible refine a6.when ?_
  | (with_reducible refine a6.opt fun _ => ?_)
  | (with_reducible refine a6.idx fun _ => ?_)
  | (with_reducible refine a6.bF fun _ => ?_)
  | with_reducible refine a6.bc ?_ ?_
  | (with_reducible refine a6.force fun _ => ?_)
  | (with_reducible refine a6.aS fun _ => ?_)
  | (with_reducible refine a6.cut fun _ => ?_)
  | (with_reducible refine a6.ex fun _ => ?_)
  | (with_reducible refine a6.bind (cE _ _ _ _) fun _ => ?_)
  | (with_reducible refine a6.bind (dh _ _ _ _ _) fun _ => ?_)
  | split
theorem nV (C : Ctx) (s : AS) (t : TypeId) (len : Nat) (parts : Array (Nat × Operand)) : a6 (fS C s t len parts) := by
 unfold fS
 repeat' first
  | with_reducible exact a6.ret _
  | with_reducible exact a6.fail
  | with_reducible exact a6.c9 _
  | with_reducible refine a6.au ?_
  | with_reducible refine a6.when ?_
  | (with_reducible refine a6.opt fun _ => ?_)
  | (with_reducible refine a6.idx fun _ => ?_)
  | (with_reducible refine a6.bF fun _ => ?_)
  | with_reducible refine a6.bc ?_ ?_
  | (with_reducible refine a6.force fun _ => ?_)
  | (with_reducible refine a6.aS fun _ => ?_)
  | (with_reducible refine a6.cut fun _ => ?_)
  | (with_reducible refine a6.ex fun _ => ?_)
  | (with_reducible refine a6.bind (cE _ _ _ _) fun _ => ?_)
  | (with_reducible refine a6.bind (dh _ _ _ _ _) fun _ => ?_)
  | split
theorem Bz (C : Ctx) (s : AS) (t : TypeId) (a : Operand) : a6 (iR C s t a) := by
 unfold iR
 repeat' first
  | with_reducible exact a6.ret _
  | with_reducible exact a6.fail
  | with_reducible exact a6.c9 _
  | with_reducible refine a6.au ?_
  | with_reducible refine a6.when ?_
  | (with_reducible refine a6.opt fun _ => ?_)
  | (with_reducible refine a6.idx fun _ => ?_)
  | (with_reducible refine a6.bF fun _ => ?_)
  | with_reducible refine a6.bc ?_ ?_
  | (with_reducible refine a6.force fun _ => ?_)
  | (with_reducible refine a6.aS fun _ => ?_)
  | (with_reducible refine a6.cut fun _ => ?_)
  | (with_reducible refine a6.ex fun _ => ?_)
  | (with_reducible refine a6.bind (cE _ _ _ _) fun _ => ?_)
  | (with_reducible refine a6.bind (dh _ _ _ _ _) fun _ => ?_)
  | split
theorem BQ (C : Ctx) (s : AS) (t : TypeId) (a x : Operand) : a6 (jG C s t a x) := by
 unfold jG
 repeat' first
  | with_reducible exact a6.ret _
  | with_reducible exact a6.fail
  | with_reducible exact a6.c9 _
  | with_reducible refine a6.au ?_
  | with_reducible refine a6.when ?_
  | (with_reducible refine a6.opt fun _ => ?_)
  | (with_reducible refine a6.idx fun _ => ?_)
  | (with_reducible refine a6.bF fun _ => ?_)
  | with_reducible refine a6.bc ?_ ?_
  | (with_reducible refine a6.force fun _ => ?_)
  | (with_reducible refine a6.aS fun _ => ?_)
  | (with_reducible refine a6.cut fun _ => ?_)
  | (with_reducible refine a6.ex fun _ => ?_)
  | (with_reducible refine a6.bind (cE _ _ _ _) fun _ => ?_)
  | (with_reducible refine a6.bind (dh _ _ _ _ _) fun _ => ?_)
  | split
theorem BK (C : Ctx) (s : AS) (x : Operand) : a6 (jF C s x) := by
 unfold jF
 repeat' first
  | with_reducible exact a6.ret _
  | with_reducible exact a6.fail
  | with_reducible exact a6.c9 _
  | with_reducible refine a6.au ?_
  | with_reducible refine a6.when ?_
  | (with_reducible refine a6.opt fun _ => ?_)
  | (with_reducible refine a6.idx fun _ => ?_)
  | (with_reducible refine a6.bF fun _ => ?_)
  | with_reducible refine a6.bc ?_ ?_
  | (with_reducible refine a6.force fun _ => ?_)
  | (with_reducible refine a6.aS fun _ => ?_)
  | (with_reducible refine a6.cut fun _ => ?_)
  | (with_reducible refine a6.ex fun _ => ?_)
  | (with_reducible refine a6.bind (cE _ _ _ _) fun _ => ?_)
  | (with_reducible refine a6.bind (dh _ _ _ _ _) fun _ => ?_)
  | split
theorem BD (C : Ctx) (s : AS) (t : TypeId) (x : Operand) : a6 (mn C s t x) := by
 unfold mn
 repeat' first
  | with_reducible exact a6.ret _
  | with_reducible exact a6.fail
  | with_reducible exact a6.c9 _
  | with_reducible refine a6.au ?_
  | with_reducible refine a6.when ?_
  | (with_reducible refine a6.opt fun _ => ?_)
  | (with_reducible refine a6.idx fun _ => ?_)
  | (with_reducible refine a6.bF fun _ => ?_)
  | with_reducible refine a6.bc ?_ ?_
  | (with_reducible refine a6.force fun _ => ?_)
  | (with_reducible refine a6.aS fun _ => ?_)
  | (with_reducible refine a6.cut fun _ => ?_)
  | (with_reducible refine a6.ex fun _ => ?_)
  | (with_reducible refine a6.bind (cE _ _ _ _) fun _ => ?_)
  | (with_reducible refine a6.bind (dh _ _ _ _ _) fun _ => ?_)
  | split
theorem BF (C : Ctx) (s : AS) (t : TypeId) (l c : Operand) : a6 (jC C s t l c) := by
 unfold jC
 repeat' first
  | with_reducible exact a6.ret _
  | with_reducible exact a6.fail
  | with_reducible exact a6.c9 _
  | with_reducible refine a6.au ?_
  | with_reducible refine a6.when ?_
  | (with_reducible refine a6.opt fun _ => ?_)
  | (with_reducible refine a6.idx fun _ => ?_)
  | (with_reducible refine a6.bF fun _ => ?_)
  | with_reducible refine a6.bc ?_ ?_
  | (with_reducible refine a6.force fun _ => ?_)
  | (with_reducible refine a6.aS fun _ => ?_)
  | (with_reducible refine a6.cut fun _ => ?_)
  | (with_reducible refine a6.ex fun _ => ?_)
  | (with_reducible refine a6.bind (cE _ _ _ _) fun _ => ?_)
  | (with_reducible refine a6.bind (dh _ _ _ _ _) fun _ => ?_)
  | split
theorem BO (C : Ctx) (s : AS) (t : TypeId) (x : Operand) (lo hi mx : Option Operand) : a6 (l7 C s t x lo hi mx) := by
 unfold l7
 repeat' first
  | with_reducible exact a6.ret _
  | with_reducible exact a6.fail
  | with_reducible exact a6.c9 _
  | with_reducible refine a6.au ?_
  | with_reducible refine a6.when ?_
  | (with_reducible refine a6.opt fun _ => ?_)
  | (with_reducible refine a6.idx fun _ => ?_)
  | (with_reducible refine a6.bF fun _ => ?_)
  | with_reducible refine a6.bc ?_ ?_
  | (with_reducible refine a6.force fun _ => ?_)
  | (with_reducible refine a6.aS fun _ => ?_)
  | (with_reducible refine a6.cut fun _ => ?_)
  | (with_reducible refine a6.ex fun _ => ?_)
  | (with_reducible refine a6.bind (cE _ _ _ _) fun _ => ?_)
  | (with_reducible refine a6.bind (dh _ _ _ _ _) fun _ => ?_)
  | split
theorem Bt (C : Ctx) (s : AS) (t : TypeId) (x : Operand) (f : Nat) : a6 (jy C s t x f) := by
 unfold jy
 repeat' first
  | with_reducible exact a6.ret _
  | with_reducible exact a6.fail
  | with_reducible exact a6.c9 _
  | with_reducible refine a6.au ?_
  | with_reducible refine a6.when ?_
  | (with_reducible refine a6.opt fun _ => ?_)
  | (with_reducible refine a6.idx fun _ => ?_)
  | (with_reducible refine a6.bF fun _ => ?_)
  | with_reducible refine a6.bc ?_ ?_
  | (with_reducible refine a6.force fun _ => ?_)
  | (with_reducible refine a6.aS fun _ => ?_)
  | (with_reducible refine a6.cut fun _ => ?_)
  | (with_reducible refine a6.ex fun _ => ?_)
  | (with_reducible refine a6.bind (cE _ _ _ _) fun _ => ?_)
  | (with_reducible refine a6.bind (dh _ _ _ _ _) fun _ => ?_)
  | split
theorem Bu (C : Ctx) (s : AS) (t : TypeId) (x : Operand) (f : Nat) : a6 (jx C s t x f) := by
 unfold jx
 repeat' first
  | with_reducible exact a6.ret _
  | with_reducible exact a6.fail
  | with_reducible exact a6.c9 _
  | with_reducible refine a6.au ?_
  | with_reducible refine a6.when ?_
  | (with_reducible refine a6.opt fun _ => ?_)
  | (with_reducible refine a6.idx fun _ => ?_)
  | (with_reducible refine a6.bF fun _ => ?_)
  | with_reducible refine a6.bc ?_ ?_
  | (with_reducible refine a6.force fun _ => ?_)
  | (with_reducible refine a6.aS fun _ => ?_)
  | (with_reducible refine a6.cut fun _ => ?_)
  | (with_reducible refine a6.ex fun _ => ?_)
  | (with_reducible refine a6.bind (cE _ _ _ _) fun _ => ?_)
  | (with_reducible refine a6.bind (dh _ _ _ _ _) fun _ => ?_)
  | split
theorem Bv (C : Ctx) (s : AS) (t : TypeId) (x ix : Operand) : a6 (l4 C s t x ix) := by
 unfold l4
 repeat' first
  | with_reducible exact a6.ret _
  | with_reducible exact a6.fail
  | with_reducible exact a6.c9 _
  | with_reducible refine a6.au ?_
  | with_reducible refine a6.when ?_
  | (with_reducible refine a6.opt fun _ => ?_)
  | (with_reducible refine a6.idx fun _ => ?_)
  | (with_reducible refine a6.bF fun _ => ?_)
  | with_reducible refine a6.bc ?_ ?_
  | (with_reducible refine a6.force fun _ => ?_)
  | (with_reducible refine a6.aS fun _ => ?_)
  | (with_reducible refine a6.cut fun _ => ?_)
  | (with_reducible refine a6.ex fun _ => ?_)
  | (with_reducible refine a6.bind (cE _ _ _ _) fun _ => ?_)
  | (with_reducible refine a6.bind (dh _ _ _ _ _) fun _ => ?_)
  | split
theorem Bw (C : Ctx) (s : AS) (t : TypeId) (x ix : Operand) : a6 (ml C s t x ix) := by
 unfold ml
 repeat' first
  | with_reducible exact a6.ret _
  | with_reducible exact a6.fail
  | with_reducible exact a6.c9 _
  | with_reducible refine a6.au ?_
  | with_reducible refine a6.when ?_
  | (with_reducible refine a6.opt fun _ => ?_)
  | (with_reducible refine a6.idx fun _ => ?_)
  | (with_reducible refine a6.bF fun _ => ?_)
  | with_reducible refine a6.bc ?_ ?_
  | (with_reducible refine a6.force fun _ => ?_)
  | (with_reducible refine a6.aS fun _ => ?_)
  | (with_reducible refine a6.cut fun _ => ?_)
  | (with_reducible refine a6.ex fun _ => ?_)
  | (with_reducible refine a6.bind (cE _ _ _ _) fun _ => ?_)
  | (with_reducible refine a6.bind (dh _ _ _ _ _) fun _ => ?_)
  | split
theorem Bj (C : Ctx) (s : AS) (x : Operand) (t : TypeId) (ok : Bool) : a6 (mi C s x t ok) := by
 unfold mi
 repeat' first
  | with_reducible exact a6.ret _
  | with_reducible exact a6.fail
  | with_reducible exact a6.c9 _
  | with_reducible refine a6.au ?_
  | with_reducible refine a6.when ?_
  | (with_reducible refine a6.opt fun _ => ?_)
  | (with_reducible refine a6.idx fun _ => ?_)
  | (with_reducible refine a6.bF fun _ => ?_)
  | with_reducible refine a6.bc ?_ ?_
  | (with_reducible refine a6.force fun _ => ?_)
  | (with_reducible refine a6.aS fun _ => ?_)
  | (with_reducible refine a6.cut fun _ => ?_)
  | (with_reducible refine a6.ex fun _ => ?_)
  | (with_reducible refine a6.bind (cE _ _ _ _) fun _ => ?_)
  | (with_reducible refine a6.bind (dh _ _ _ _ _) fun _ => ?_)
  | split
theorem Bs (C : Ctx) (s : AS) (x : Operand) (i : Nat) : a6 (mj C s x i) := by
 unfold mj
 repeat' first
  | with_reducible exact a6.ret _
  | with_reducible exact a6.fail
  | with_reducible exact a6.c9 _
  | with_reducible refine a6.au ?_
  | with_reducible refine a6.when ?_
  | (with_reducible refine a6.opt fun _ => ?_)
  | (with_reducible refine a6.idx fun _ => ?_)
  | (with_reducible refine a6.bF fun _ => ?_)
  | with_reducible refine a6.bc ?_ ?_
  | (with_reducible refine a6.force fun _ => ?_)
  | (with_reducible refine a6.aS fun _ => ?_)
  | (with_reducible refine a6.cut fun _ => ?_)
  | (with_reducible refine a6.ex fun _ => ?_)
  | (with_reducible refine a6.bind (cE _ _ _ _) fun _ => ?_)
  | (with_reducible refine a6.bind (dh _ _ _ _ _) fun _ => ?_)
  | split
theorem By (C : Ctx) (s : AS) (t : TypeId) (x : Operand) : a6 (jz C s t x) := by
 unfold jz
 repeat' first
  | with_reducible exact a6.ret _
  | with_reducible exact a6.fail
  | with_reducible exact Bx _ _ _ _
  | with_reducible exact a6.c9 _
  | with_reducible refine a6.au ?_
  | with_reducible refine a6.when ?_
  | (with_reducible refine a6.opt fun _ => ?_)
  | (with_reducible refine a6.idx fun _ => ?_)
  | (with_reducible refine a6.bF fun _ => ?_)
  | with_reducible refine a6.bc ?_ ?_
  | (with_reducible refine a6.force fun _ => ?_)
  | (with_reducible refine a6.aS fun _ => ?_)
  | (with_reducible refine a6.cut fun _ => ?_)
  | (with_reducible refine a6.ex fun _ => ?_)
  | (with_reducible refine a6.bind (cE _ _ _ _) fun _ => ?_)
  | (with_reducible refine a6.bind (dh _ _ _ _ _) fun _ => ?_)
  | split
theorem BJ (C : Ctx) (s : AS) (x : Operand) (b : Bool) : a6 (l5 C s x b) := by
 unfold l5
 repeat' first
  | with_reducible exact a6.ret _
  | with_reducible exact a6.fail
  | with_reducible exact a6.c9 _
  | with_reducible refine a6.au ?_
  | with_reducible refine a6.when ?_
  | (with_reducible refine a6.opt fun _ => ?_)
  | (with_reducible refine a6.idx fun _ => ?_)
  | (with_reducible refine a6.bF fun _ => ?_)
  | with_reducible refine a6.bc ?_ ?_
  | (with_reducible refine a6.force fun _ => ?_)
  | (with_reducible refine a6.aS fun _ => ?_)
  | (with_reducible refine a6.cut fun _ => ?_)
  | (with_reducible refine a6.ex fun _ => ?_)
  | (with_reducible refine a6.bind (cE _ _ _ _) fun _ => ?_)
  | (with_reducible refine a6.bind (dh _ _ _ _ _) fun _ => ?_)
  | split
theorem Bo (C : Ctx) (s : AS) (c : Call) : a6 (kZ C s c) := by
 unfold kZ
 split
 . exact a6.bF fun _ => Bn _ _ _ _ _
 . exact a6.opt fun _ => a6.c9 _
 . split
   . exact a6.ex fun _ => a6.au (a6.c9 _)
   . exact a6.fail
theorem Bk (C : Ctx) (s : AS) (dst : Option Nat) (t : TypeId) (len : Nat) (parts : Array (Nat × Operand)) : a6 (iP C s dst t len parts) := by
 unfold iP
 split
 . rename_i d
   cases C.lits d
   . exact nV _ _ _ _ _
   . simp only [cond_true, mm]
     refine a6.bind (nV _ _ _ _ _) fun e => ?_
     split
     . exact a6.aS fun _ => a6.ret _
     . exact a6.fail
 . exact nV _ _ _ _ _
theorem BI (C : Ctx) (s : AS) (a b : TypeId) (x : V) : a6 (jE C s a b x) := by
 unfold jE
 split
 . cases Nat.beq a b
   . exact wJ _ _ _ _ _
   . simp only [cond_true]
     split
     . split
       . split
         . exact a6.ret _
         . exact a6.fail
       . exact a6.fail
     . exact a6.fail
 . exact wJ _ _ _ _ _
theorem Bl (C : Ctx) (c : Bool) (op : BinOp) (t : TypeId) (u v : V) : a6 (cond c (l6 C op t) (cX (iQ C op t u v) fun v => ret (pe v))) := by
 cases c with
 | false =>
   show a6 (cX (iQ C op t u v) fun v => ret (pe v))
   exact a6.bind (wH C op t u v) fun _ => a6.ret _
 | true =>
   show a6 (l6 C op t)
   unfold l6
   split
   . exact a6.ret _
   . exact a6.ret _
   . exact a6.fail
theorem mq (C : Ctx) (s : AS) (o : Oper) : a6 (bp C s o) := by
 unfold bp
 split
 . exact a6.force fun _ => a6.ret _
 . exact a6.force fun _ => a6.ret _
 . exact BN _ _ _ _ _
 . exact Bh _ _ _
 . exact a6.force fun _ => a6.aS fun _ => a6.when (a6.ret _)
 . exact Bm _ _ _ _
 . exact Bk _ _ _ _ _ _
 . exact Bz _ _ _ _
 . exact BQ _ _ _ _ _
 . exact BK _ _ _
 . exact Bl _ _ _ _ _ _
 . exact a6.bind (wM _ _) fun _ => a6.ret _
 . exact BI _ _ _ _ _
 . exact BD _ _ _ _
 . exact a6.bF fun _ => a6.bF fun _ => a6.ret _
 . exact BF _ _ _ _ _
 . exact BO _ _ _ _ _ _ _
 . exact Bt _ _ _ _ _
 . exact Bu _ _ _ _ _
 . exact Bv _ _ _ _ _
 . exact Bw _ _ _ _ _
 . exact Bj _ _ _ _ _
 . exact Bs _ _ _ _
 . exact By _ _ _ _
 . exact BJ _ _ _ _
 . exact BE _ _ _
 . exact BC _ _ _ _ _ _
 . exact BH _ _ _ _ _ _
 . exact BG _ _ _ _ _
 . exact Bq _ _ _ _ _ _
 . exact Br _ _ _
 . exact Bo _ _ _
 . exact a6.fail

structure Rel (E : Env) (st : St) (g : ae) (s : AS) (a : Act) (w : World) : Prop where
 nt : a.tmps.size = s.nt
 df : a.defers = E.ds
 tm : ∀ t, VR st g (lk s.tm t) s.sg.length (a.tmps.getD t undef)
 wr : az E st g s.sg w

theorem IG {k : IntKind} {n : Int} (h : qB k n = true) : k.min ≤ n ∧ n ≤ k.max := by
 unfold qB at h
 split at h
 . cases k <;> simp only [yz] at h <;> have h' := Nat.le_of_ble_eq_true h <;> simp [IntKind.min, IntKind.max, IntKind.signed, IntKind.bits] <;> omega
 . cases k <;> simp only [yB] at h <;> first
  | (have h' := Nat.le_of_ble_eq_true h; simp [IntKind.min, IntKind.max, IntKind.signed, IntKind.bits]; omega)
  | cases h

theorem yF {st : St} {g : ae} {n : Nat} (v : Value) : VR st g (qU v) n v := by
 unfold qU
 split
 . rename_i k m
   cases h : qB k m with
   | true => simpa [VR] using IG h
   | false => simp [VR]
 . simp [VR]
 . rename_i s
   cases h : Nat.ble s.data.toList.length 1048576 with
   | true =>
     have := Nat.le_of_ble_eq_true h
     simp only [cond_true, VR]
     have h3 : s.data.toList.length ≤ maxLen := by unfold maxLen; omega
     simpa [VR] using h3
   | false => simp [VR]
 . simp only [VR]; exact ⟨none, 0, by simp, by simp, by simp [maxLen], by simp, .inl trivial⟩
 . simp [VR]
 . simp [VR]
 . simp [VR]
 . simp [VR]
 . simp [VR]
theorem yG {st : St} {g : ae} {n : Nat} : ∀ vs : List Value, aq st g (tE vs) n vs
 | [] => bZ
 | v :: vs => b7 (yF v) (yG vs)
theorem GF {st : St} {g : ae} {n : Nat} (v : Value) : VR st g (tD v) n v := by
 unfold tD
 split
 . rename_i cs
   simp only [VR]
   exact ⟨cs, rfl, yG _⟩
 . exact yF v

theorem aH {E : Env} {st : St} {g : ae} {s : AS} {a : Act} {w : World} {C : Ctx} (R : Rel E st g s a w) (hg : aE C.gl st) (x : Operand) : VR st g (s.ev C x) s.sg.length (a.eval x) := by
 cases x with
 | tmp t => exact R.tm t
 | const v => exact GF v
 | global b =>
   simp only [AS.ev, Act.eval]
   split
   . rename_i cs h
     obtain ⟨vs, h1, h2⟩ := hg b cs h g
     simp only [VR]
     exact ⟨b, 0, vs, rfl, h1, fun j hj => by rw [Nat.zero_add]; exact h2 j hj⟩
   . simp [VR]
 | func f =>
   simp only [AS.ev, Act.eval, VR]
   exact ⟨#[], #[], rfl, bZ, bZ⟩
theorem mw {E : Env} {st : St} {g : ae} {s : AS} {a : Act} {w : World} {C : Ctx} (R : Rel E st g s a w) (hg : aE C.gl st) : ∀ xs : List Operand, aq st g (s.bz C xs) s.sg.length (xs.map a.eval)
 | [] => bZ
 | x :: xs => b7 (aH R hg x) (mw R hg xs)

theorem lq : ∀ (up : List (Nat × O)) (sg : List O), (cn sg up).length = sg.length
 | [], sg => rfl
 | (i, o) :: r, sg => by simp only [cn]; rw [lq r, dZ]; simp
theorem pR {E : Env} {st st' : St} {g g' : ae} {n n' : Nat} {ks : List Nat} (A : fM E st g n st' g' n' ks) {x : V} {v : Value} (h : VR st g x n v) : VR st' g' (x.kill ks) n' v :=
 dD A.mono (fun i hi hn => ⟨Nat.lt_of_lt_of_le hn A.len, A.aO i hn (iX hi).1⟩) (nC h)

theorem Rel.app {E : Env} {st st' : St} {g g' : ae} {s : AS} {a : Act} {w w' : World} {d : Option Nat} {e : Ef} {v : Value} (R : Rel E st g s a w) (hd : cB s d = true)
   (A : fM E st g s.sg.length st' g' (s.app d e).sg.length e.ks) (W : az E st' g' (s.app d e).sg w') (hv : VR st' g' e.v (s.app d e).sg.length v) : Rel E st' g' (s.app d e) (a.put d v) w' where
 nt := by
  cases d with
  | none => exact R.nt
  | some d => simp [Act.put, AS.app, R.nt]
 df := by cases d <;> exact R.df
 wr := W
 tm := fun t => by
   cases d with
   | none =>
     have h1 : lk (s.app none e).tm t = (lk s.tm t).kill e.ks := by simp only [AS.app]; exact j4 _ _ _
     rw [h1]
     exact pR A (R.tm t)
   | some d =>
     have hlt : d < s.nt := by simpa [cB] using hd
     have h1 : lk (s.app (some d) e).tm t = cond (Nat.beq d t) e.v ((lk s.tm t).kill e.ks) := by simp only [AS.app, lk]; rw [j4]
     rw [h1]
     by_cases hdt : d = t
     . subst hdt
       rw [show Nat.beq d d = true from Nat.beq_refl d]
       simp only [cond_true, Act.put]
       rw [show (a.tmps.setIfInBounds d v).getD d undef = v by simp [R.nt, hlt]]
       exact hv
     . rw [show Nat.beq d t = false from by cases hb : Nat.beq d t with | false => rfl | true => exact absurd (Nat.eq_of_beq_eq_true hb) hdt]
       simp only [cond_false, Act.put]
       rw [show (a.tmps.setIfInBounds d v).getD t undef = a.tmps.getD t undef by simp [hdt]]
       exact pR A (R.tm t)

structure Good (C : Ctx) : Prop where
 ti : ∀ t, av C.P t (C.ti t)
 mt : ∀ t m f, C.mt t m f → ∀ (v : Value) (w : World), (method (C.P.types.size + Made.depth) t v m).run C.P w = .ok (f, v) w
 hm : C.P.follows .mixedOrders = true

def al (C : Ctx) (E : Env) (st : St) (g : ae) (s : AS) (a : Act) (w : World) (o : Oper) (e : Ef) : Prop :=
 ∀ (next : Act → World → Prop) (Q : Exit → Act → World → Prop), (∀ st' g' w' v, fM E st g s.sg.length st' g' (s.app o.dst e).sg.length e.ks → az E st' g' (s.app o.dst e).sg w' →
  VR st' g' e.v (s.app o.dst e).sg.length v → next (a.put o.dst v) w') → o.wp C.P a w next Q

section
variable {C : Ctx} {E : Env} {st : St} {g : ae} {s : AS} {a : Act} {w : World} {o : Oper}

theorem al.val {e : Ef} (v : Value) (w' : World) (st' : St) (g' : ae) (hr : (execOp a.eval o).run C.P w = .ok (.value v) w')
   (A : fM E st g s.sg.length st' g' (s.app o.dst e).sg.length e.ks) (W : az E st' g' (s.app o.dst e).sg w') (hv : VR st' g' e.v (s.app o.dst e).sg.length v) : al C E st g s a w o e := by
 intro next Q h
 unfold Oper.wp
 rw [hr]
 exact h st' g' w' v A W hv

theorem al.skip {e : Ef} (w' : World) (st' : St) (g' : ae) (hr : (execOp a.eval o).run C.P w = .ok .skip w')
   (A : fM E st g s.sg.length st' g' (s.app o.dst e).sg.length e.ks) (W : az E st' g' (s.app o.dst e).sg w') (hv : VR st' g' e.v (s.app o.dst e).sg.length undef) : al C E st g s a w o e := by
 intro next Q h
 unfold Oper.wp
 rw [hr]
 exact h st' g' w' undef A W hv

theorem dJ (s : AS) (d : Option Nat) (x : V) : (s.app d (pe x)).sg = s.sg := by simp [AS.app, pe, fD, cn, ep]
theorem jm (s : AS) (d : Option Nat) (x : V) (rd : List Nat) : (s.app d ⟨x, [], [], [], rd⟩).sg = s.sg := by simp [AS.app, fD, cn, ep]

theorem al.pure {x : V} {rd : List Nat} (R : Rel E st g s a w) (v : Value) (w' : World) (hr : (execOp a.eval o).run C.P w = .ok (.value v) w') (hw : aF w w') (hv : VR st g x s.sg.length v) :
   al C E st g s a w o ⟨x, [], [], [], rd⟩ := by
 refine al.val v w' st g hr ⟨fun _ _ _ h => h, fun _ _ _ => rfl, ?_⟩ ?_ ?_
 . rw [jm]; exact Nat.le_refl _
 . rw [jm]; exact R.wr.same hw
 . rw [jm]; exact hv
end
end Go.VG
namespace Go.VG
open Go

section
variable {C : Ctx} {E : Env} {st : St} {g : ae} {s : AS} {a : Act} {w : World} {o : Oper} {e : Ef}

theorem lX (s : AS) (d : Option Nat) (x : V) (rd : List Nat) (ob : O) : (s.app d ⟨x, [], [], [ob], rd⟩).sg = s.sg ++ [ob] := by simp [AS.app, fD, cn, ep]

theorem al.new {x : V} {rd : List Nat} {ob : O} (R : Rel E st g s a w) (v : Value) (w1 : World) (hw : aF w w1) (gi : Gh) (oj : Obj)
   (hr : (execOp a.eval o).run C.P w = .ok (.value v) (w1.alloc oj)) (hb : ∀ b, gi.blk = some b → b = w1.heap.size)
   (ho : bX E st (bf g s.sg.length gi) (s.sg.length + 1) (w1.alloc oj) gi ob)
   (hv : VR st (bf g s.sg.length gi) x (s.sg.length + 1) v) : al C E st g s a w o ⟨x, [], [], [ob], rd⟩ := by
 refine al.val v _ st (bf g s.sg.length gi) hr ⟨fun _ _ _ h => h, fun i hi _ => bU (Nat.ne_of_lt hi), ?_⟩ ?_ ?_
 . rw [lX]; simp
 . rw [lX]; exact (R.wr.same hw).AB oj gi ob hb ho
 . rw [lX]; simpa using hv

theorem al.yC {rd : List Nat} {cs : List V} (R : Rel E st g s a w) (vs : Array Value) (el : TypeId)
   (hr : (execOp a.eval o).run C.P w = .ok (.value (.pointer (some ⟨w.heap.size, 0, none⟩))) (w.alloc (.cells vs el))) (hc : aq st g cs s.sg.length vs.toList) :
   al C E st g s a w o ⟨.ptr s.sg.length 0, [], [], [.cells cs], rd⟩ := by
 refine al.new R _ w (aF.refl w) ⟨some w.heap.size, none, 0, 0, 0⟩ _ hr (by simp) ?_ ?_
 . refine ⟨w.heap.size, vs, el, (0, 0), rfl, R.wr.gnew _ R.wr.size, heap_alloc_new, ?_, ⟨by simp, by intro o _; simp⟩, R.wr.hJ⟩
   exact gJ (fun _ _ _ h => h) (fun i _ hi => ⟨by omega, bU (Nat.ne_of_lt hi)⟩) hc
 . simp only [VR]
   exact ⟨by omega, w.heap.size, by simp, rfl⟩

def a5 {α : Type} (p : α → Prop) (t : Tr α) : Prop := ∀ e, t (fun b => b = e) → p e
section
variable {α β : Type} {p : α → Prop}
theorem a5.ret {x : α} (h : p x) : a5 p (ret x) := by rintro _ ⟨⟩; exact h
theorem a5.fail : a5 p fail := fun _ h => h.elim
theorem a5.au {A : Prop} {t : Tr α} (h : A → a5 p t) : a5 p (au A t) := fun e he => h he.1 e he.2
theorem a5.when {b : Bool} {t : Tr α} (h : b = true → a5 p t) : a5 p (aT b t) := fun e he => by
 cases b with
 | false => exact he.elim
 | true => exact h rfl e he
theorem a5.opt {x : Option β} {f : β → Tr α} (h : ∀ y, x = some y → a5 p (f y)) : a5 p (cA x f) := fun e he => by
 cases x with
 | none => exact he.elim
 | some y => exact h y rfl e he
theorem a5.bc {b : Bool} {t u : Tr α} (ht : b = true → a5 p t) (hu : b = false → a5 p u) : a5 p (gM b t u) := fun e he => by
 cases b with
 | false => exact hu rfl e he
 | true => exact ht rfl e he
theorem a5.cm {x : Option β} {f : β → Tr α} {u : Tr α} (h : ∀ y, x = some y → a5 p (f y)) (hu : x = none → a5 p u) : a5 p (cm x f u) := fun e he => by
 cases hx : x with
 | none => exact hu hx e (he.2 hx)
 | some y => exact h y hx e (he.1 y hx)
theorem a5.ex {f : β → Tr α} (h : ∀ y, a5 p (f y)) : a5 p (exT f) := fun e ⟨y, he⟩ => h y e he
theorem a5.bind {t : Tr β} {f : β → Tr α} (ht : a6 t) (h : ∀ y, (∀ K : β → Prop, K y → t K) → a5 p (f y)) : a5 p (cX t f) := fun e he => by
 obtain ⟨y, h1, h2⟩ := ht _ he
 exact h y h2 e h1
end
abbrev bn (C : Ctx) (E : Env) (st : St) (g : ae) (s : AS) (a : Act) (w : World) (o : Oper) (t : Tr Ef) : Prop := a5 (al C E st g s a w o) t

theorem zg {x : Operand} (R : Rel E st g s a w) (hg : aE C.gl st) (ho : o.op = .move x ∨ o.op = .assign x) : bn C E st g s a w o (force (s.ev C x) fun x => ret (pe x)) := by
 rw [force_eq]
 exact a5.ret (al.pure R (a.eval x) w (by rcases ho with ho | ho <;> simp [execOp, ho]) (aF.refl w) (aH R hg x))

theorem HU {c x y : Operand} (R : Rel E st g s a w) (hg : aE C.gl st) (ho : o.op = .pick c x y) : bn C E st g s a w o (mr C s c x y) := by
 unfold mr
 have hc := aH R hg c
 split
 . rename_i t ht
   rw [ht] at hc
   simp only [VR] at hc
   simp only [force_eq]
   have hx := aH R hg x
   have hy := aH R hg y
   have hr : (execOp a.eval o).run C.P w = .ok (.value (if t then a.eval x else a.eval y)) w := by simp [execOp, ho, hc, asBool]
   split
   . rename_i bx bY h1 h2
     refine a5.ret (al.pure R _ w hr (aF.refl w) ?_)
     rw [h1] at hx; rw [h2] at hy
     cases t
     . simpa [VR] using hy
     . simpa [VR] using hx
   . refine a5.bc (fun h => ?_) (fun h => ?_)
     . subst h; exact a5.ret (al.pure R _ w hr (aF.refl w) (by simpa using hx))
     . subst h; exact a5.ret (al.pure R _ w hr (aF.refl w) (by simpa using hy))
 . exact a5.fail

theorem Hp {t : TypeId} (R : Rel E st g s a w) (G : Good C) (ho : o.op = .alloc t) : bn C E st g s a w o (jt C s t) := by
 unfold jt
 split
 . exact a5.fail
 . rename_i hk
   simp only [force_eq, cj]
   refine a5.when fun hu => a5.ret ?_
   obtain ⟨z, hz, hz'⟩ := tW w (G.ti t) (fun h => hk h)
   refine al.yC R z.cells t ?_ (fN (hz' st g _) (by simpa using hu))
   simp [execOp, ho, Instr.alloc, hz, newVar, newRow]

theorem s_box {t : TypeId} {x : Operand} (R : Rel E st g s a w) (hg : aE C.gl st) (ho : o.op = .box t x) :
   bn C E st g s a w o (force (s.ev C x) fun x => aS s.sg.length fun n => aT (!x.d5) (ret ⟨.ptr n 0, [], [], [.cells x.cells], []⟩)) := by
 simp only [force_eq, cj]
 refine a5.when fun hu => a5.ret ?_
 refine al.yC R (a.eval x).cells t ?_ (fN (aH R hg x) (by simpa using hu))
 simp [execOp, ho, Instr.box, newVar, newRow]

theorem yR {agg : Bool} {size off : Nat} {cs : List V} {v : V} (h : ∀ K : V → Prop, K v → eW agg size cs off K) :
   (agg = true ∧ (size = 0 ∨ off + size ≤ cs.length) ∧ v = .agg ((cs.drop off).take size)) ∨ (agg = false ∧ cs[off]? = some v) := by
 have h := h (fun x => x = v) rfl
 unfold eW at h
 cases agg
 . cases hr : gk cs off with
   | none => simp only [cA, hr, dx] at h
   | some r =>
     simp only [cA, hr, dx] at h
     rw [qv] at hr
     cases h
     exact .inr ⟨rfl, hr⟩
 . cases hr : eE (fR cs off) size with
   | none => simp only [cA, hr, dx] at h
   | some r =>
     simp only [cA, hr, dx] at h
     obtain ⟨h1, h2⟩ := vi hr
     rw [qg] at h1 h2
     subst h1
     cases h
     simp only [List.length_drop] at h2
     exact .inl ⟨rfl, by omega, rfl⟩

theorem r8 {t : TypeId} {b o : Nat} {cs : List V} {vs : List Value} {v : V} {n : Nat} (G : Good C) (hk : (C.ti t).k ≠ .other) (hc : aq st g cs n vs)
   (hw : ∀ j, j < vs.length → w.cell? ⟨b, o + j, none⟩ = vs[j]?) {off : Nat} (h : ∀ K : V → Prop, K v → eW (C.ti t).k.isAgg (C.ti t).size cs off K) :
   ∃ u, (loadVar t ⟨b, o + off, none⟩).run C.P w = .ok u w ∧ VR st g v n u := by
 rcases yR h with ⟨h1, h2, rfl⟩ | ⟨h1, h2⟩
 . have hl := dk hc
   have hlen : (C.ti t).size = ((vs.drop off).take (C.ti t).size).length := by simp; omega
   refine ⟨.agg ((vs.drop off).take (C.ti t).size).toArray, ?_, ?_⟩
   . have := run_loadCells_list (P := C.P) w ⟨b, o + off, none⟩ ((vs.drop off).take (C.ti t).size) (fun j v hj => by
       rw [Addr.add_lit]
       rw [List.getElem?_take] at hj
       split at hj
       . rw [List.getElem?_drop] at hj
         have hlt : off + j < vs.length := by
          rcases Nat.lt_or_ge (off + j) vs.length with h' | h'
          . exact h'
          . simp [List.getElem?_eq_none h'] at hj
         have := hw (off + j) hlt
         rw [hj] at this
         rw [Nat.add_assoc]; exact this
       . cases hj)
     rw [← hlen] at this
     simp [loadVar, qZ w (G.ti t) hk, h1, dY w (G.ti t) hk, this]
   . simp only [VR]
     exact ⟨_, rfl, by simpa using nI (nF hc)⟩
 . obtain ⟨u, h3, h4⟩ := kM hc h2
   have hlt : off < vs.length := by
    rcases Nat.lt_or_ge off vs.length with h' | h'
    . exact h'
    . simp [List.getElem?_eq_none h'] at h3
   refine ⟨u, ?_, h4⟩
   have := hw off hlt
   rw [h3] at this
   simp [loadVar, qZ w (G.ti t) hk, h1, this]

theorem zc {t : TypeId} {cs : List V} {vs : Array Value} {v : V} {n off : Nat} (G : Good C) (hk : (C.ti t).k ≠ .other) (hc : aq st g cs n vs.toList)
   (h : ∀ K : V → Prop, K v → eW (C.ti t).k.isAgg (C.ti t).size cs off K) : ∃ u, (part t vs off).run C.P w = .ok u w ∧ VR st g v n u := by
 rcases yR h with ⟨h1, h2, rfl⟩ | ⟨h1, h2⟩
 . refine ⟨.agg (vs.extract off (off + (C.ti t).size)), ?_, ?_⟩
   . simp [part, qZ w (G.ti t) hk, h1, dY w (G.ti t) hk]
   . simp only [VR]
     refine ⟨_, rfl, ?_⟩
     rw [Array.toList_extract, List.extract_eq_take_drop]
     simpa using nI (nF hc)
 . obtain ⟨u, h3, h4⟩ := kM hc h2
   refine ⟨u, ?_, h4⟩
   have h3' : vs[off]? = some u := by simpa using h3
   simp [part, qZ w (G.ti t) hk, h1, h3']

theorem sq {E : Env} {sg : List O} (W : az E st g sg w) {i : Nat} {cs : List V} (hi : sg[i]? = some (.cells cs)) : ∃ b c el fr, (g i).blk = some b ∧ E.G b ∧ w.heap[b]? = some (.cells c el fr) ∧ aq st g cs sg.length c.toList ∧ jI c fr ∧ ∀ o, st b o = none :=
 W.ob i _ hi

theorem HI {t : TypeId} {x : Operand} (R : Rel E st g s a w) (hg : aE C.gl st) (G : Good C) (ho : o.op = .load t x) : bn C E st g s a w o (iR C s t x) := by
 unfold iR
 simp only [gS]
 split
 . exact a5.fail
 rename_i hk
 have hk : (C.ti t).k ≠ .other := fun h => hk h
 have hx := aH R hg x
 split
 . rename_i cs off he
   rw [he] at hx
   simp only [VR] at hx
   obtain ⟨b, of, vs, h1, h2, h3⟩ := hx
   refine a5.bind (cE _ _ _ _) fun v hv => ?_
   rw [force_eq]
   have hcell : ∀ j, j < vs.length → w.cell? ⟨b, of + j, none⟩ = vs[j]? := fun j hj => by
    have h4 := h3 j hj
    rw [List.getElem?_eq_getElem hj] at h4 ⊢
    exact R.wr.stw _ _ _ h4
   obtain ⟨u, h5, h6⟩ := r8 (w := w) (b := b) (o := of) G hk h2 hcell hv
   refine a5.ret (al.pure R u w ?_ (aF.refl w) (dD (fun _ _ _ h => h) (fun i _ hi => absurd hi (Nat.not_lt_zero _)) h6))
   simp [execOp, ho, Instr.loadAt, h1, Instr.sureAddr, h5]
 . rename_i i off he
   rw [he] at hx
   simp only [VR] at hx
   obtain ⟨hi, b, hb, h1⟩ := hx
   split
   . rename_i cs hs
     obtain ⟨hs1, _⟩ := cO hs (by simp)
     obtain ⟨b', c, el, fr, k1, k2, k3, k4, k5, k6⟩ := sq R.wr hs1
     rw [hb] at k1; cases k1
     refine a5.bind (cE _ _ _ _) fun v hv => ?_
     rw [force_eq]
     have hcell : ∀ j, j < c.toList.length → w.cell? ⟨b, 0 + j, none⟩ = c.toList[j]? := fun j hj => by rw [dq k3]; simp
     obtain ⟨u, h5, h6⟩ := r8 (w := w) (b := b) (o := 0) G hk k4 hcell hv
     refine a5.ret (al.pure R u w ?_ (aF.refl w) h6)
     rw [Nat.zero_add] at h5
     simp [execOp, ho, Instr.loadAt, h1, Instr.sureAddr, h5]
   . exact a5.fail
 . rename_i i idx off he
   rw [he] at hx
   simp only [VR] at hx
   obtain ⟨hi, b, hb, h1⟩ := hx
   split
   . rename_i sz pre l hs
     obtain ⟨hs1, _⟩ := cO hs (by simp)
     obtain ⟨q1, q2, q3, q4, q5, q6, q7⟩ := R.wr.ob i _ hs1
     refine a5.opt fun y hy => a5.when fun hu => a5.bind (cE _ _ _ _) fun v hv => ?_
     rw [force_eq]
     rcases q7 with ⟨_, q7⟩ | ⟨b', c, el, fr, k1, k2, k3, k4, k5, k6, _⟩
     . rw [hb] at q7; cases q7
     . rw [hb] at k1; cases k1
       obtain ⟨u, r1, r2, r3, r4⟩ := dT.1 k6 idx y hy
       have r5 := fN r1 (by simpa using hu)
       have hcell : ∀ j, j < u.cells.toList.length → w.cell? ⟨b, idx * sz + j, none⟩ = u.cells.toList[j]? := fun j hj => by
        rw [dq k4]
        have := r4 j (by rw [← r2]; simpa using hj)
        rw [Nat.zero_add] at this
        simpa using this
       obtain ⟨u', h5, h6⟩ := r8 (w := w) (b := b) (o := idx * sz) G hk r5 hcell hv
       refine a5.ret (al.pure R u' w ?_ (aF.refl w) (dD (fun _ _ _ h => h) (fun i _ hi => absurd hi (Nat.not_lt_zero _)) h6))
       rw [q2] at h1
       simp [execOp, ho, Instr.loadAt, h1, Instr.sureAddr, h5]
   . exact a5.fail
 . exact a5.fail

theorem HT {x : Operand} (R : Rel E st g s a w) (hg : aE C.gl st) (ho : o.op = .nilCheck x) : bn C E st g s a w o (jF C s x) := by
 unfold jF
 have hx := aH R hg x
 split
 all_goals first
  | exact a5.fail
  | skip
 all_goals
  rename_i he
  rw [he] at hx
  have hx' := hx
  simp only [VR] at hx
 . obtain ⟨_, b, _, h1⟩ := hx
   exact a5.ret (al.pure R (a.eval x) w (by simp [execOp, ho, h1]) (aF.refl w) hx')
 . obtain ⟨_, b, _, h1⟩ := hx
   exact a5.ret (al.pure R (a.eval x) w (by simp [execOp, ho, h1]) (aF.refl w) hx')
 . obtain ⟨b, _, _, h1, _⟩ := hx
   exact a5.ret (al.pure R (a.eval x) w (by simp [execOp, ho, h1]) (aF.refl w) hx')
 . obtain ⟨b, _, h1, _⟩ := hx
   exact a5.ret (al.pure R (a.eval x) w (by simp [execOp, ho, h1]) (aF.refl w) hx')
 . obtain ⟨b, h1, _⟩ := hx
   exact a5.ret (al.pure R (a.eval x) w (by simp [execOp, ho, h1]) (aF.refl w) hx')

theorem HL {t : TypeId} {x : Operand} (R : Rel E st g s a w) (hg : aE C.gl st) (G : Good C) (ho : o.op = .makeInterface t x) : bn C E st g s a w o (mn C s t x) := by
 unfold mn
 split
 . exact a5.fail
 . exact a5.fail
 . rename_i h1 h2
   rw [force_eq]
   refine a5.when fun hu => a5.ret ?_
   refine al.pure R (.iface t (a.eval x)) w ?_ (aF.refl w) (by simp only [VR]; exact ⟨_, rfl, aH R hg x⟩)
   obtain ⟨h3, _⟩ := (G.ti t).of (fun h => h1 h)
   cases hk' : (C.ti t).k <;> rw [hk'] at h3 <;> simp only [TK.ok] at h3
   case struct fs => obtain ⟨f, h3, _⟩ := h3; simp [execOp, ho, Instr.makeInterface, run_underlying h3]
   case iface => exact absurd hk' (fun h => h2 h)
   case func => obtain ⟨p, q, r, h3⟩ := h3; simp [execOp, ho, Instr.makeInterface, run_underlying h3]
   all_goals simp [execOp, ho, Instr.makeInterface, run_underlying h3]

theorem HK {fn : Fn} {xs ys : Array Operand} (R : Rel E st g s a w) (hg : aE C.gl st) (ho : o.op = .makeFunc fn xs ys) :
   bn C E st g s a w o (jL (s.bz C xs.toList) fun a => jL (s.bz C ys.toList) fun b => ret (pe (.func fn a b))) := by
 simp only [o4]
 refine a5.ret (al.pure R (.func fn (xs.map a.eval) (ys.map a.eval)) w (by simp [execOp, ho, Instr.makeFunc]) (aF.refl w) ?_)
 simp only [VR]
 exact ⟨_, _, rfl, by simpa using mw R hg xs.toList, by simpa using mw R hg ys.toList⟩

theorem HB {x : Operand} {i : Nat} (R : Rel E st g s a w) (hg : aE C.gl st) (ho : o.op = .extract x i) : bn C E st g s a w o (mj C s x i) := by
 unfold mj
 have hx := aH R hg x
 split
 . rename_i vs he
   rw [he] at hx
   simp only [VR] at hx
   obtain ⟨us, h1, h2⟩ := hx
   refine a5.opt fun v hv => ?_
   rw [force_eq]
   rw [qv] at hv
   obtain ⟨u, h3, h4⟩ := kM h2 hv
   have h3' : us[i]? = some u := by simpa using h3
   exact a5.ret (al.pure R u w (by simp [execOp, ho, h1, Instr.extract, h3']) (aF.refl w) h4)
 . exact a5.fail

theorem xf : ∀ {fs : List (Nat × TypeId)} {i : Nat} {x : Nat × TypeId}, cC fs i = some x → fs[i]? = some x
 | [], i, x, h => by simp [cC] at h
 | y :: ys, 0, x, h => by simpa [cC] using h
 | y :: ys, i + 1, x, h => by simpa [cC] using xf (fs := ys) (by simpa [cC] using h)
theorem sD {fields : Array Field} {fs : List (Nat × TypeId)} (h : fields.toList.map (fun f => (f.offset, f.type)) = fs) {i : Nat} {x : Nat × TypeId} (hx : cC fs i = some x) :
   ∃ f, fields[i]? = some f ∧ f.offset = x.1 ∧ f.type = x.2 := by
 have := xf hx
 rw [← h, List.getElem?_map] at this
 cases hf : fields.toList[i]? with
 | none => rw [hf] at this; cases this
 | some f => rw [hf] at this; cases this; exact ⟨f, by simpa using hf, rfl, rfl⟩

theorem HC {t : TypeId} {x : Operand} {f : Nat} (R : Rel E st g s a w) (hg : aE C.gl st) (G : Good C) (ho : o.op = .field t x f) : bn C E st g s a w o (jx C s t x f) := by
 unfold jx
 have hx := aH R hg x
 split
 . rename_i fs cs hk he
   rw [he] at hx
   simp only [VR] at hx
   obtain ⟨us, h1, h2⟩ := hx
   obtain ⟨h3, _⟩ := (G.ti t).of (by rw [hk]; simp)
   rw [hk] at h3
   obtain ⟨fields, h3, h4, _⟩ := h3
   refine a5.opt fun ft hft => ?_
   split
   . exact a5.fail
   rename_i hk2
   refine a5.bind (cE _ _ _ _) fun v hv => ?_
   rw [force_eq]
   obtain ⟨fd, h5, h6, h7⟩ := sD h4 hft
   obtain ⟨u, h8, h9⟩ := zc (w := w) G (fun h => hk2 h) h2 hv
   refine a5.ret (al.pure R u w ?_ (aF.refl w) h9)
   simp [execOp, ho, Instr.field, run_underlying h3, h5, h1, asAgg, h6, h7, h8]
 . exact a5.fail

theorem HD {t : TypeId} {x : Operand} {f : Nat} (R : Rel E st g s a w) (hg : aE C.gl st) (G : Good C) (ho : o.op = .fieldAddr t x f) : bn C E st g s a w o (jy C s t x f) := by
 unfold jy
 have hx := aH R hg x
 split
 . rename_i fs hk
   obtain ⟨h3, _⟩ := (G.ti t).of (by rw [hk]; simp)
   rw [hk] at h3
   obtain ⟨fields, h3, h4, _⟩ := h3
   refine a5.opt fun ft hft => ?_
   split
   . exact a5.fail
   rename_i hk2
   refine a5.when fun hsz => ?_
   obtain ⟨fd, h5, h6, h7⟩ := sD h4 hft
   have hsz' := Nat.le_of_ble_eq_true hsz
   have hs0 : ¬ (C.ti fd.type).size = 0 := by rw [h7]; omega
   have hrs := dY w (G.ti fd.type) (by rw [h7]; exact fun h => hk2 h)
   have hr : ∀ ad : Addr, a.eval x = .pointer (some ad) → (execOp a.eval o).run C.P w = .ok (.value (.pointer (some (ad.add ft.1)))) w := fun ad had => by
    simp [execOp, ho, Instr.fieldAt, run_underlying h3, h5, had, Instr.sureAddr, fieldPlace, hrs, hs0, h6]
   split
   . rename_i i off he
     rw [he] at hx
     simp only [VR] at hx
     obtain ⟨hi, b, hb, h1⟩ := hx
     rw [cj]
     refine a5.ret (al.pure R _ w (hr _ h1) (aF.refl w) ?_)
     simp only [VR]
     exact ⟨hi, b, hb, by rw [Addr.add_lit]⟩
   . rename_i i j off he
     rw [he] at hx
     simp only [VR] at hx
     obtain ⟨hi, b, hb, h1⟩ := hx
     rw [cj]
     refine a5.ret (al.pure R _ w (hr _ h1) (aF.refl w) ?_)
     simp only [VR]
     exact ⟨hi, b, hb, by rw [Addr.add_lit, Nat.add_assoc]⟩
   . rename_i cs off he
     rw [he] at hx
     simp only [VR] at hx
     obtain ⟨b, of, vs, h1, h2, h8⟩ := hx
     rw [cj]
     refine a5.ret (al.pure R _ w (hr _ h1) (aF.refl w) ?_)
     simp only [VR]
     exact ⟨b, of, vs, by rw [Addr.add_lit, Nat.add_assoc], h2, h8⟩
   . exact a5.fail
 . exact a5.fail
end
end Go.VG
