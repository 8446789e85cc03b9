/-
  A part of the proof.
-/
import Derived.Test.YtllncocibkgjkaaVgD
set_option linter.unusedSimpArgs false
set_option linter.unusedVariables false
namespace Go.VG
open Go

def a7 {α : Type} (t : Tr α) : Prop := ∀ K : α → Prop, t K → ∃ a, K a ∧ ∀ K' : α → Prop, K' a → t K'

section
variable {α β : Type}
theorem a7.ret (a : α) : a7 (ret a) := fun _ h => ⟨a, h, fun _ h => h⟩
theorem a7.fail : a7 (fail : Tr α) := fun _ h => h.elim
theorem a7.aq {A : Prop} {t : Tr α} (h : a7 t) : a7 (aq A t) := fun K hk => let ⟨a, h1, h2⟩ := h K hk.2; ⟨a, h1, fun K' k => ⟨hk.1, h2 K' k⟩⟩
theorem a7.when {b : Bool} {t : Tr α} (h : a7 t) : a7 (aR b t) := fun K hk => by
 cases b with
 | false => exact hk.elim
 | true => exact h K hk
theorem a7.opt {o : Option α} {f : α → Tr β} (h : ∀ a, a7 (f a)) : a7 (cJ o f) := fun K hk => by
 cases o with
 | none => exact hk.elim
 | some a => exact h a K hk
theorem a7.bg {b : Bool} {t u : Tr α} (ht : a7 t) (hu : a7 u) : a7 (iI b t u) := fun K hk => by
 cases b with
 | false => exact hu K hk
 | true => exact ht K hk
theorem a7.cz {o : Option α} {h : α → Tr β} {u : Tr β} (hf : ∀ a, a7 (h a)) (hu : a7 u) : a7 (cz o h u) := fun K hk => by
 cases o with
 | none => obtain ⟨a, h1, h2⟩ := hu K (hk.2 rfl); exact ⟨a, h1, fun K' k => ⟨fun _ q => (by cases q), fun _ => h2 K' k⟩⟩
 | some x => obtain ⟨a, h1, h2⟩ := hf x K (hk.1 x rfl); exact ⟨a, h1, fun K' k => ⟨fun _ q => (by cases q; exact h2 K' k), fun q => (by cases q)⟩⟩
theorem a7.idx {l : List α} {n : Nat} {f : α → Tr β} (h : ∀ a, a7 (f a)) : a7 (kK l n f) := by rw [iR]; exact a7.opt h
theorem a7.bind {t : Tr α} {f : α → Tr β} (ht : a7 t) (hf : ∀ a, a7 (f a)) : a7 (dR t f) := fun K hk => by
 obtain ⟨a, h1, h2⟩ := ht _ hk
 obtain ⟨b, h3, h4⟩ := hf a K h1
 exact ⟨b, h3, fun K' k => h2 _ (h4 K' k)⟩
theorem a7.ex {f : α → Tr β} (h : ∀ a, a7 (f a)) : a7 (exT f) := fun K ⟨a, hk⟩ => let ⟨b, h1, h2⟩ := h a K hk; ⟨b, h1, fun K' k => ⟨a, h2 K' k⟩⟩
theorem a7.force {x : V} {f : V → Tr α} (h : ∀ x, a7 (f x)) : a7 (force x f) := by rw [force_eq]; exact h x
theorem a7.aQ {x : Nat} {f : Nat → Tr α} (h : ∀ x, a7 (f x)) : a7 (aQ x f) := by rw [cy]; exact h x
theorem a7.bO {x : List V} {f : List V → Tr α} (h : ∀ x, a7 (f x)) : a7 (kA x f) := by rw [mW]; exact h x
theorem a7.cut {a : List α} {r : Option Int × Option Int} {f : List α → Tr β} (h : ∀ x, a7 (f x)) : a7 (oq a r f) := by rw [ot]; exact h _
theorem a7.cu (r : Option (Prop × Ef)) : a7 (cu r) := by
 refine a7.opt fun p => a7.aq fun K hk => ?_
 rw [gn] at hk
 exact ⟨p.2, hk, fun K' k => by rw [gn]; exact k⟩
end

theorem xd (C : Ctx) (op : BinOp) (t : TypeId) (x y : V) : a7 (mJ C op t x y) := by
 unfold mJ
 repeat' first
  | with_reducible exact a7.ret _
  | with_reducible exact a7.fail
  | with_reducible refine a7.aq ?_
  | with_reducible refine a7.when ?_
  | (with_reducible refine a7.opt fun _ => ?_)
  | (with_reducible refine a7.idx fun _ => ?_)
  | (with_reducible refine a7.bO fun _ => ?_)
  | split
theorem xi (op : UnOp) (x : V) : a7 (oC op x) := by
 unfold oC; split <;> first | with_reducible exact a7.ret _ | with_reducible exact a7.fail
theorem cS (agg : Bool) (size : Nat) (cs : List V) (off : Nat) : a7 (fO agg size cs off) := by
 unfold fO; split <;> exact a7.opt fun _ => a7.ret _
theorem kd (s : AS) (x : V) : a7 (elems s x) := by
 unfold elems
 repeat' first
  | with_reducible exact a7.ret _
  | with_reducible exact a7.fail
  | split
theorem C3 (C : Ctx) (s : AS) (e : TypeId) (x : V) (ys : List V) (rd : List Nat) : a7 (kf C s e x ys rd) := by
 unfold kf
 repeat' first
  | with_reducible exact a7.ret _
  | with_reducible exact a7.fail
  | with_reducible refine a7.aq ?_
  | with_reducible refine a7.when ?_
  | (with_reducible refine a7.aQ fun _ => ?_)
  | split
theorem kQ {C : Ctx} {s : AS} {t : TypeId} {m : V} {F : Nat → Bool → List Sc → List (V × Int) → List Nat → Nat → Tr Ef} (h : ∀ i ag sh es bs ck, a7 (F i ag sh es bs ck)) : a7 (dq C s t m F) := by
 unfold dq
 refine a7.opt fun p => ?_
 split
 . split
   . exact a7.when (h _ _ _ _ _ _)
   . exact a7.fail
 . exact a7.fail
theorem Cn (C : Ctx) (s : AS) (t : TypeId) : a7 (ko C s t) := by
 unfold ko
 repeat' first
  | with_reducible exact a7.ret _
  | with_reducible exact a7.fail
  | with_reducible refine a7.aq ?_
  | with_reducible refine a7.when ?_
  | (with_reducible refine kQ fun _ _ _ _ _ _ => ?_)
  | (with_reducible refine a7.opt fun _ => ?_)
  | (with_reducible refine a7.cz (fun _ => ?_) ?_)
  | (with_reducible refine a7.idx fun _ => ?_)
  | (with_reducible refine a7.force fun _ => ?_)
  | (with_reducible refine a7.aQ fun _ => ?_)
  | (with_reducible refine a7.ex fun _ => ?_)
  | split
theorem Cl (C : Ctx) (s : AS) (t : TypeId) (m x : Operand) (ok : Bool) : a7 (i7 C s t m x ok) := by
 unfold i7
 repeat' first
  | with_reducible exact a7.ret _
  | with_reducible exact a7.fail
  | with_reducible refine a7.aq ?_
  | with_reducible refine a7.when ?_
  | (with_reducible refine kQ fun _ _ _ _ _ _ => ?_)
  | (with_reducible refine a7.opt fun _ => ?_)
  | (with_reducible refine a7.cz (fun _ => ?_) ?_)
  | (with_reducible refine a7.idx fun _ => ?_)
  | (with_reducible refine a7.force fun _ => ?_)
  | (with_reducible refine a7.aQ fun _ => ?_)
  | (with_reducible refine a7.ex fun _ => ?_)
  | split
theorem Cq (C : Ctx) (s : AS) (t : TypeId) (m x y : Operand) : a7 (kq C s t m x y) := by
 unfold kq
 repeat' first
  | with_reducible exact a7.ret _
  | with_reducible exact a7.fail
  | with_reducible refine a7.aq ?_
  | with_reducible refine a7.when ?_
  | (with_reducible refine kQ fun _ _ _ _ _ _ => ?_)
  | (with_reducible refine a7.opt fun _ => ?_)
  | (with_reducible refine a7.cz (fun _ => ?_) ?_)
  | (with_reducible refine a7.idx fun _ => ?_)
  | (with_reducible refine a7.force fun _ => ?_)
  | (with_reducible refine a7.aQ fun _ => ?_)
  | (with_reducible refine a7.ex fun _ => ?_)
  | split
theorem Cp (C : Ctx) (s : AS) (t : TypeId) (m x : Operand) : a7 (j5 C s t m x) := by
 unfold j5
 repeat' first
  | with_reducible exact a7.ret _
  | with_reducible exact a7.fail
  | with_reducible refine a7.aq ?_
  | with_reducible refine a7.when ?_
  | (with_reducible refine kQ fun _ _ _ _ _ _ => ?_)
  | (with_reducible refine a7.opt fun _ => ?_)
  | (with_reducible refine a7.cz (fun _ => ?_) ?_)
  | (with_reducible refine a7.idx fun _ => ?_)
  | (with_reducible refine a7.force fun _ => ?_)
  | (with_reducible refine a7.aQ fun _ => ?_)
  | (with_reducible refine a7.ex fun _ => ?_)
  | split
theorem Ca (C : Ctx) (s : AS) (t : TypeId) (m b y : Operand) : a7 (kh C s t m b y) := by
 unfold kh
 repeat' first
  | with_reducible exact a7.ret _
  | with_reducible exact a7.fail
  | with_reducible refine a7.aq ?_
  | with_reducible refine a7.when ?_
  | (with_reducible refine kQ fun _ _ _ _ _ _ => ?_)
  | (with_reducible refine a7.opt fun _ => ?_)
  | (with_reducible refine a7.cz (fun _ => ?_) ?_)
  | (with_reducible refine a7.idx fun _ => ?_)
  | (with_reducible refine a7.force fun _ => ?_)
  | (with_reducible refine a7.aQ fun _ => ?_)
  | (with_reducible refine a7.ex fun _ => ?_)
  | split
theorem C9 (C : Ctx) (s : AS) (t : TypeId) (m x : V) : a7 (kg C s t m x) := by
 unfold kg
 repeat' first
  | with_reducible exact a7.ret _
  | with_reducible exact a7.fail
  | with_reducible refine a7.aq ?_
  | with_reducible refine a7.when ?_
  | (with_reducible refine kQ fun _ _ _ _ _ _ => ?_)
  | (with_reducible refine a7.opt fun _ => ?_)
  | (with_reducible refine a7.cz (fun _ => ?_) ?_)
  | (with_reducible refine a7.idx fun _ => ?_)
  | (with_reducible refine a7.force fun _ => ?_)
  | (with_reducible refine a7.aQ fun _ => ?_)
  | (with_reducible refine a7.ex fun _ => ?_)
  | split
theorem Ci (C : Ctx) (s : AS) (t : TypeId) (m : V) : a7 (kn C s t m) := by
 unfold kn
 repeat' first
  | with_reducible exact a7.ret _
  | with_reducible exact a7.fail
  | with_reducible refine a7.aq ?_
  | with_reducible refine a7.when ?_
  | (with_reducible refine kQ fun _ _ _ _ _ _ => ?_)
  | (with_reducible refine a7.opt fun _ => ?_)
  | (with_reducible refine a7.cz (fun _ => ?_) ?_)
  | (with_reducible refine a7.idx fun _ => ?_)
  | (with_reducible refine a7.force fun _ => ?_)
  | (with_reducible refine a7.aQ fun _ => ?_)
  | (with_reducible refine a7.ex fun _ => ?_)
  | split
theorem Cb (C : Ctx) (s : AS) (x : Operand) : a7 (lB C s x) := by
 unfold lB
 repeat' first
  | with_reducible exact a7.ret _
  | with_reducible exact a7.fail
  | with_reducible refine a7.aq ?_
  | with_reducible refine a7.when ?_
  | (with_reducible refine kQ fun _ _ _ _ _ _ => ?_)
  | (with_reducible refine a7.opt fun _ => ?_)
  | (with_reducible refine a7.cz (fun _ => ?_) ?_)
  | (with_reducible refine a7.idx fun _ => ?_)
  | (with_reducible refine a7.force fun _ => ?_)
  | (with_reducible refine a7.aQ fun _ => ?_)
  | (with_reducible refine a7.ex fun _ => ?_)
  | split
theorem C7 (C : Ctx) (s : AS) (b : Builtin) (ts : List TypeId) (args : List V) : a7 (iK C s b ts args) := by
 unfold iK
 repeat' first
  | with_reducible exact a7.ret _
  | with_reducible exact a7.fail
  | with_reducible exact C3 _ _ _ _ _ _
  | with_reducible exact C9 _ _ _ _ _
  | with_reducible refine a7.aq ?_
  | with_reducible refine a7.when ?_
  | (with_reducible refine a7.bind (kd _ _) fun _ => ?_)
  | (with_reducible refine a7.aQ fun _ => ?_)
  | split
theorem xf (C : Ctx) (s : AS) (a b : TypeId) (x : V) : a7 (gT C s a b x) := by
 unfold gT
 repeat' first
  | with_reducible exact a7.ret _
  | with_reducible exact a7.fail
  | with_reducible refine a7.aq ?_
  | with_reducible refine a7.when ?_
  | (with_reducible refine a7.bind (kd _ _) fun _ => ?_)
  | (with_reducible refine a7.ex fun _ => ?_)
  | split
theorem dz (C : Ctx) (s : AS) (len : Nat) (lo hi : Option Operand) : a7 (gj C s len lo hi) := by
 unfold gj
 repeat' first
  | with_reducible exact a7.ret _
  | with_reducible exact a7.fail
  | with_reducible refine a7.aq ?_
  | split

theorem Cx (C : Ctx) (s : AS) (c a b : Operand) : a7 (mQ C s c a b) := by
 unfold mQ
 repeat' first
  | with_reducible exact a7.ret _
  | with_reducible exact a7.fail
  | with_reducible exact a7.cu _
  | with_reducible refine a7.aq ?_
  | with_reducible refine a7.when ?_
  | (with_reducible refine a7.opt fun _ => ?_)
  | (with_reducible refine a7.idx fun _ => ?_)
  | (with_reducible refine a7.bO fun _ => ?_)
  | with_reducible refine a7.bg ?_ ?_
  | (with_reducible refine a7.force fun _ => ?_)
  | (with_reducible refine a7.aQ fun _ => ?_)
  | (with_reducible refine a7.cut fun _ => ?_)
  | (with_reducible refine a7.ex fun _ => ?_)
  | (with_reducible refine a7.bind (cS _ _ _ _) fun _ => ?_)
  | (with_reducible refine a7.bind (dz _ _ _ _ _) fun _ => ?_)
  | split
theorem C2 (C : Ctx) (s : AS) (t : TypeId) : a7 (ke C s t) := by
 unfold ke
 repeat' first
  | with_reducible exact a7.ret _
  | with_reducible exact a7.fail
  | with_reducible exact a7.cu _
  | with_reducible refine a7.aq ?_
  | with_reducible refine a7.when ?_
  | (with_reducible refine a7.opt fun _ => ?_)
  | (with_reducible refine a7.idx fun _ => ?_)
  | (with_reducible refine a7.bO fun _ => ?_)
  | with_reducible refine a7.bg ?_ ?_
  | (with_reducible refine a7.force fun _ => ?_)
  | (with_reducible refine a7.aQ fun _ => ?_)
  | (with_reducible refine a7.cut fun _ => ?_)
  | (with_reducible refine a7.ex fun _ => ?_)
  | (with_reducible refine a7.bind (cS _ _ _ _) fun _ => ?_)
  | (with_reducible refine a7.bind (dz _ _ _ _ _) fun _ => ?_)
  | split
theorem C6 (C : Ctx) (s : AS) (t : TypeId) (parts : Array (Nat × Operand)) : a7 (lz C s t parts) := by
 unfold lz
 repeat' first
  | with_reducible exact a7.ret _
  | with_reducible exact a7.fail
  | with_reducible exact a7.cu _
  | with_reducible refine a7.aq ?_
  | with_reducible refine a7.when ?_
  | (with_reducible refine a7.opt fun _ => ?_)
  | (with_reducible refine a7.idx fun _ => ?_)
  | (with_reducible refine a7.bO fun _ => ?_)
  | with_reducible refine a7.bg ?_ ?_
  | (with_reducible refine a7.force fun _ => ?_)
  | (with_reducible refine a7.aQ fun _ => ?_)
  | (with_reducible refine a7.cut fun _ => ?_)
  | (with_reducible refine a7.ex fun _ => ?_)
  | (with_reducible refine a7.bind (cS _ _ _ _) fun _ => ?_)
  | (with_reducible refine a7.bind (dz _ _ _ _ _) fun _ => ?_)
  | split
theorem oA (C : Ctx) (s : AS) (t : TypeId) (len : Nat) (parts : Array (Nat × Operand)) : a7 (gS C s t len parts) := by
 unfold gS
 repeat' first
  | with_reducible exact a7.ret _
  | with_reducible exact a7.fail
  | with_reducible exact a7.cu _
  | with_reducible refine a7.aq ?_
  | with_reducible refine a7.when ?_
  | (with_reducible refine a7.opt fun _ => ?_)
  | (with_reducible refine a7.idx fun _ => ?_)
  | (with_reducible refine a7.bO fun _ => ?_)
  | with_reducible refine a7.bg ?_ ?_
  | (with_reducible refine a7.force fun _ => ?_)
  | (with_reducible refine a7.aQ fun _ => ?_)
  | (with_reducible refine a7.cut fun _ => ?_)
  | (with_reducible refine a7.ex fun _ => ?_)
  | (with_reducible refine a7.bind (cS _ _ _ _) fun _ => ?_)
  | (with_reducible refine a7.bind (dz _ _ _ _ _) fun _ => ?_)
  | split
theorem Ck (C : Ctx) (s : AS) (t : TypeId) (a : Operand) : a7 (jB C s t a) := by
 unfold jB
 repeat' first
  | with_reducible exact a7.ret _
  | with_reducible exact a7.fail
  | with_reducible exact a7.cu _
  | with_reducible refine a7.aq ?_
  | with_reducible refine a7.when ?_
  | (with_reducible refine a7.opt fun _ => ?_)
  | (with_reducible refine a7.idx fun _ => ?_)
  | (with_reducible refine a7.bO fun _ => ?_)
  | with_reducible refine a7.bg ?_ ?_
  | (with_reducible refine a7.force fun _ => ?_)
  | (with_reducible refine a7.aQ fun _ => ?_)
  | (with_reducible refine a7.cut fun _ => ?_)
  | (with_reducible refine a7.ex fun _ => ?_)
  | (with_reducible refine a7.bind (cS _ _ _ _) fun _ => ?_)
  | (with_reducible refine a7.bind (dz _ _ _ _ _) fun _ => ?_)
  | split
theorem CA (C : Ctx) (s : AS) (t : TypeId) (a x : Operand) : a7 (kx C s t a x) := by
 unfold kx
 repeat' first
  | with_reducible exact a7.ret _
  | with_reducible exact a7.fail
  | with_reducible exact a7.cu _
  | with_reducible refine a7.aq ?_
  | with_reducible refine a7.when ?_
  | (with_reducible refine a7.opt fun _ => ?_)
  | (with_reducible refine a7.idx fun _ => ?_)
  | (with_reducible refine a7.bO fun _ => ?_)
  | with_reducible refine a7.bg ?_ ?_
  | (with_reducible refine a7.force fun _ => ?_)
  | (with_reducible refine a7.aQ fun _ => ?_)
  | (with_reducible refine a7.cut fun _ => ?_)
  | (with_reducible refine a7.ex fun _ => ?_)
  | (with_reducible refine a7.bind (cS _ _ _ _) fun _ => ?_)
  | (with_reducible refine a7.bind (dz _ _ _ _ _) fun _ => ?_)
  | split
theorem Ct (C : Ctx) (s : AS) (x : Operand) : a7 (ku C s x) := by
 unfold ku
 repeat' first
  | with_reducible exact a7.ret _
  | with_reducible exact a7.fail
  | with_reducible exact a7.cu _
  | with_reducible refine a7.aq ?_
  | with_reducible refine a7.when ?_
  | (with_reducible refine a7.opt fun _ => ?_)
  | (with_reducible refine a7.idx fun _ => ?_)
  | (with_reducible refine a7.bO fun _ => ?_)
  | with_reducible refine a7.bg ?_ ?_
  | (with_reducible refine a7.force fun _ => ?_)
  | (with_reducible refine a7.aQ fun _ => ?_)
  | (with_reducible refine a7.cut fun _ => ?_)
  | (with_reducible refine a7.ex fun _ => ?_)
  | (with_reducible refine a7.bind (cS _ _ _ _) fun _ => ?_)
  | (with_reducible refine a7.bind (dz _ _ _ _ _) fun _ => ?_)
  | split
theorem Cm (C : Ctx) (s : AS) (t : TypeId) (x : Operand) : a7 (mO C s t x) := by
 unfold mO
 repeat' first
  | with_reducible exact a7.ret _
  | with_reducible exact a7.fail
  | with_reducible exact a7.cu _
  | with_reducible refine a7.aq ?_
  | with_reducible refine a7.when ?_
  | (with_reducible refine a7.opt fun _ => ?_)
  | (with_reducible refine a7.idx fun _ => ?_)
  | (with_reducible refine a7.bO fun _ => ?_)
  | with_reducible refine a7.bg ?_ ?_
  | (with_reducible refine a7.force fun _ => ?_)
  | (with_reducible refine a7.aQ fun _ => ?_)
  | (with_reducible refine a7.cut fun _ => ?_)
  | (with_reducible refine a7.ex fun _ => ?_)
  | (with_reducible refine a7.bind (cS _ _ _ _) fun _ => ?_)
  | (with_reducible refine a7.bind (dz _ _ _ _ _) fun _ => ?_)
  | split
theorem Co (C : Ctx) (s : AS) (t : TypeId) (l c : Operand) : a7 (kp C s t l c) := by
 unfold kp
 repeat' first
  | with_reducible exact a7.ret _
  | with_reducible exact a7.fail
  | with_reducible exact a7.cu _
  | with_reducible refine a7.aq ?_
  | with_reducible refine a7.when ?_
  | (with_reducible refine a7.opt fun _ => ?_)
  | (with_reducible refine a7.idx fun _ => ?_)
  | (with_reducible refine a7.bO fun _ => ?_)
  | with_reducible refine a7.bg ?_ ?_
  | (with_reducible refine a7.force fun _ => ?_)
  | (with_reducible refine a7.aQ fun _ => ?_)
  | (with_reducible refine a7.cut fun _ => ?_)
  | (with_reducible refine a7.ex fun _ => ?_)
  | (with_reducible refine a7.bind (cS _ _ _ _) fun _ => ?_)
  | (with_reducible refine a7.bind (dz _ _ _ _ _) fun _ => ?_)
  | split
theorem Cy (C : Ctx) (s : AS) (t : TypeId) (x : Operand) (lo hi mx : Option Operand) : a7 (lE C s t x lo hi mx) := by
 unfold lE
 repeat' first
  | with_reducible exact a7.ret _
  | with_reducible exact a7.fail
  | with_reducible exact a7.cu _
  | with_reducible refine a7.aq ?_
  | with_reducible refine a7.when ?_
  | (with_reducible refine a7.opt fun _ => ?_)
  | (with_reducible refine a7.idx fun _ => ?_)
  | (with_reducible refine a7.bO fun _ => ?_)
  | with_reducible refine a7.bg ?_ ?_
  | (with_reducible refine a7.force fun _ => ?_)
  | (with_reducible refine a7.aQ fun _ => ?_)
  | (with_reducible refine a7.cut fun _ => ?_)
  | (with_reducible refine a7.ex fun _ => ?_)
  | (with_reducible refine a7.bind (cS _ _ _ _) fun _ => ?_)
  | (with_reducible refine a7.bind (dz _ _ _ _ _) fun _ => ?_)
  | split
theorem Ce (C : Ctx) (s : AS) (t : TypeId) (x : Operand) (f : Nat) : a7 (kj C s t x f) := by
 unfold kj
 repeat' first
  | with_reducible exact a7.ret _
  | with_reducible exact a7.fail
  | with_reducible exact a7.cu _
  | with_reducible refine a7.aq ?_
  | with_reducible refine a7.when ?_
  | (with_reducible refine a7.opt fun _ => ?_)
  | (with_reducible refine a7.idx fun _ => ?_)
  | (with_reducible refine a7.bO fun _ => ?_)
  | with_reducible refine a7.bg ?_ ?_
  | (with_reducible refine a7.force fun _ => ?_)
  | (with_reducible refine a7.aQ fun _ => ?_)
  | (with_reducible refine a7.cut fun _ => ?_)
  | (with_reducible refine a7.ex fun _ => ?_)
  | (with_reducible refine a7.bind (cS _ _ _ _) fun _ => ?_)
  | (with_reducible refine a7.bind (dz _ _ _ _ _) fun _ => ?_)
  | split
theorem Cf (C : Ctx) (s : AS) (t : TypeId) (x : Operand) (f : Nat) : a7 (ki C s t x f) := by
 unfold ki
 repeat' first
  | with_reducible exact a7.ret _
  | with_reducible exact a7.fail
  | with_reducible exact a7.cu _
  | with_reducible refine a7.aq ?_
  | with_reducible refine a7.when ?_
  | (with_reducible refine a7.opt fun _ => ?_)
  | (with_reducible refine a7.idx fun _ => ?_)
  | (with_reducible refine a7.bO fun _ => ?_)
  | with_reducible refine a7.bg ?_ ?_
  | (with_reducible refine a7.force fun _ => ?_)
  | (with_reducible refine a7.aQ fun _ => ?_)
  | (with_reducible refine a7.cut fun _ => ?_)
  | (with_reducible refine a7.ex fun _ => ?_)
  | (with_reducible refine a7.bind (cS _ _ _ _) fun _ => ?_)
  | (with_reducible refine a7.bind (dz _ _ _ _ _) fun _ => ?_)
  | split
theorem Cg (C : Ctx) (s : AS) (t : TypeId) (x ix : Operand) : a7 (lC C s t x ix) := by
 unfold lC
 repeat' first
  | with_reducible exact a7.ret _
  | with_reducible exact a7.fail
  | with_reducible exact a7.cu _
  | with_reducible refine a7.aq ?_
  | with_reducible refine a7.when ?_
  | (with_reducible refine a7.opt fun _ => ?_)
  | (with_reducible refine a7.idx fun _ => ?_)
  | (with_reducible refine a7.bO fun _ => ?_)
  | with_reducible refine a7.bg ?_ ?_
  | (with_reducible refine a7.force fun _ => ?_)
  | (with_reducible refine a7.aQ fun _ => ?_)
  | (with_reducible refine a7.cut fun _ => ?_)
  | (with_reducible refine a7.ex fun _ => ?_)
  | (with_reducible refine a7.bind (cS _ _ _ _) fun _ => ?_)
  | (with_reducible refine a7.bind (dz _ _ _ _ _) fun _ => ?_)
  | split
theorem Ch (C : Ctx) (s : AS) (t : TypeId) (x ix : Operand) : a7 (mM C s t x ix) := by
 unfold mM
 repeat' first
  | with_reducible exact a7.ret _
  | with_reducible exact a7.fail
  | with_reducible exact a7.cu _
  | with_reducible refine a7.aq ?_
  | with_reducible refine a7.when ?_
  | (with_reducible refine a7.opt fun _ => ?_)
  | (with_reducible refine a7.idx fun _ => ?_)
  | (with_reducible refine a7.bO fun _ => ?_)
  | with_reducible refine a7.bg ?_ ?_
  | (with_reducible refine a7.force fun _ => ?_)
  | (with_reducible refine a7.aQ fun _ => ?_)
  | (with_reducible refine a7.cut fun _ => ?_)
  | (with_reducible refine a7.ex fun _ => ?_)
  | (with_reducible refine a7.bind (cS _ _ _ _) fun _ => ?_)
  | (with_reducible refine a7.bind (dz _ _ _ _ _) fun _ => ?_)
  | split
theorem C4 (C : Ctx) (s : AS) (x : Operand) (t : TypeId) (ok : Bool) : a7 (mI C s x t ok) := by
 unfold mI
 repeat' first
  | with_reducible exact a7.ret _
  | with_reducible exact a7.fail
  | with_reducible exact a7.cu _
  | with_reducible refine a7.aq ?_
  | with_reducible refine a7.when ?_
  | (with_reducible refine a7.opt fun _ => ?_)
  | (with_reducible refine a7.idx fun _ => ?_)
  | (with_reducible refine a7.bO fun _ => ?_)
  | with_reducible refine a7.bg ?_ ?_
  | (with_reducible refine a7.force fun _ => ?_)
  | (with_reducible refine a7.aQ fun _ => ?_)
  | (with_reducible refine a7.cut fun _ => ?_)
  | (with_reducible refine a7.ex fun _ => ?_)
  | (with_reducible refine a7.bind (cS _ _ _ _) fun _ => ?_)
  | (with_reducible refine a7.bind (dz _ _ _ _ _) fun _ => ?_)
  | split
theorem Cc (C : Ctx) (s : AS) (x : Operand) (i : Nat) : a7 (mL C s x i) := by
 unfold mL
 repeat' first
  | with_reducible exact a7.ret _
  | with_reducible exact a7.fail
  | with_reducible exact a7.cu _
  | with_reducible refine a7.aq ?_
  | with_reducible refine a7.when ?_
  | (with_reducible refine a7.opt fun _ => ?_)
  | (with_reducible refine a7.idx fun _ => ?_)
  | (with_reducible refine a7.bO fun _ => ?_)
  | with_reducible refine a7.bg ?_ ?_
  | (with_reducible refine a7.force fun _ => ?_)
  | (with_reducible refine a7.aQ fun _ => ?_)
  | (with_reducible refine a7.cut fun _ => ?_)
  | (with_reducible refine a7.ex fun _ => ?_)
  | (with_reducible refine a7.bind (cS _ _ _ _) fun _ => ?_)
  | (with_reducible refine a7.bind (dz _ _ _ _ _) fun _ => ?_)
  | split
theorem Cj (C : Ctx) (s : AS) (t : TypeId) (x : Operand) : a7 (km C s t x) := by
 unfold km
 repeat' first
  | with_reducible exact a7.ret _
  | with_reducible exact a7.fail
  | with_reducible exact Ci _ _ _ _
  | with_reducible exact a7.cu _
  | with_reducible refine a7.aq ?_
  | with_reducible refine a7.when ?_
  | (with_reducible refine a7.opt fun _ => ?_)
  | (with_reducible refine a7.idx fun _ => ?_)
  | (with_reducible refine a7.bO fun _ => ?_)
  | with_reducible refine a7.bg ?_ ?_
  | (with_reducible refine a7.force fun _ => ?_)
  | (with_reducible refine a7.aQ fun _ => ?_)
  | (with_reducible refine a7.cut fun _ => ?_)
  | (with_reducible refine a7.ex fun _ => ?_)
  | (with_reducible refine a7.bind (cS _ _ _ _) fun _ => ?_)
  | (with_reducible refine a7.bind (dz _ _ _ _ _) fun _ => ?_)
  | split
theorem Cs (C : Ctx) (s : AS) (x : Operand) (b : Bool) : a7 (lD C s x b) := by
 unfold lD
 repeat' first
  | with_reducible exact a7.ret _
  | with_reducible exact a7.fail
  | with_reducible exact a7.cu _
  | with_reducible refine a7.aq ?_
  | with_reducible refine a7.when ?_
  | (with_reducible refine a7.opt fun _ => ?_)
  | (with_reducible refine a7.idx fun _ => ?_)
  | (with_reducible refine a7.bO fun _ => ?_)
  | with_reducible refine a7.bg ?_ ?_
  | (with_reducible refine a7.force fun _ => ?_)
  | (with_reducible refine a7.aQ fun _ => ?_)
  | (with_reducible refine a7.cut fun _ => ?_)
  | (with_reducible refine a7.ex fun _ => ?_)
  | (with_reducible refine a7.bind (cS _ _ _ _) fun _ => ?_)
  | (with_reducible refine a7.bind (dz _ _ _ _ _) fun _ => ?_)
  | split
theorem C8 (C : Ctx) (s : AS) (c : Call) : a7 (lA C s c) := by
 unfold lA
 split
 . exact a7.bO fun _ => C7 _ _ _ _ _
 . exact a7.opt fun _ => a7.cu _
 . split
   . exact a7.ex fun _ => a7.aq (a7.cu _)
   . exact a7.fail
theorem C5 (C : Ctx) (s : AS) (dst : Option Nat) (t : TypeId) (len : Nat) (parts : Array (Nat × Operand)) : a7 (jA C s dst t len parts) := by
 unfold jA
 split
 . rename_i d
   cases C.lits d
   . exact oA _ _ _ _ _
   . simp only [cond_true, mN]
     refine a7.bind (oA _ _ _ _ _) fun e => ?_
     split
     . exact a7.aQ fun _ => a7.ret _
     . exact a7.fail
 . exact oA _ _ _ _ _
theorem Cr (C : Ctx) (s : AS) (a b : TypeId) (x : V) : a7 (kt C s a b x) := by
 unfold kt
 split
 . cases Nat.beq a b
   . exact xf _ _ _ _ _
   . simp only [cond_true]
     split
     . split
       . split
         . exact a7.ret _
         . exact a7.fail
       . exact a7.fail
     . exact a7.fail
 . exact xf _ _ _ _ _
theorem mP (C : Ctx) (s : AS) (o : Oper) : a7 (bB C s o) := by
 unfold bB
 split
 . exact a7.force fun _ => a7.ret _
 . exact a7.force fun _ => a7.ret _
 . exact Cx _ _ _ _ _
 . exact C2 _ _ _
 . exact a7.force fun _ => a7.aQ fun _ => a7.when (a7.ret _)
 . exact C6 _ _ _ _
 . exact C5 _ _ _ _ _ _
 . exact Ck _ _ _ _
 . exact CA _ _ _ _ _
 . exact Ct _ _ _
 . exact a7.bind (xd _ _ _ _ _) fun _ => a7.ret _
 . exact a7.bind (xi _ _) fun _ => a7.ret _
 . exact Cr _ _ _ _ _
 . exact Cm _ _ _ _
 . exact a7.bO fun _ => a7.bO fun _ => a7.ret _
 . exact Co _ _ _ _ _
 . exact Cy _ _ _ _ _ _ _
 . exact Ce _ _ _ _ _
 . exact Cf _ _ _ _ _
 . exact Cg _ _ _ _ _
 . exact Ch _ _ _ _ _
 . exact C4 _ _ _ _ _
 . exact Cc _ _ _ _
 . exact Cj _ _ _ _
 . exact Cs _ _ _ _
 . exact Cn _ _ _
 . exact Cl _ _ _ _ _ _
 . exact Cq _ _ _ _ _ _
 . exact Cp _ _ _ _ _
 . exact Ca _ _ _ _ _ _
 . exact Cb _ _ _
 . exact C8 _ _ _
 . exact a7.fail

structure Rel (E : Env) (st : St) (g : a9) (s : AS) (a : Act) (w : World) : Prop where
 nt : a.tmps.size = s.nt
 df : a.defers = E.ds
 tm : ∀ t, VR st g (lk s.tm t) s.sg.length (a.tmps.getD t undef)
 wr : ar E st g s.sg w

theorem Iy {k : IntKind} {n : Int} (h : qC k n = true) : k.min ≤ n ∧ n ≤ k.max := by
 unfold qC at h
 split at h
 . cases k <;> simp only [zk] at h <;> have h' := Nat.le_of_ble_eq_true h <;> simp [IntKind.min, IntKind.max, IntKind.signed, IntKind.bits] <;> omega
 . cases k <;> simp only [zm] at h <;> first
  | (have h' := Nat.le_of_ble_eq_true h; simp [IntKind.min, IntKind.max, IntKind.signed, IntKind.bits]; omega)
  | cases h

theorem zt {st : St} {g : a9} {n : Nat} (v : Value) : VR st g (qW v) n v := by
 unfold qW
 split
 . rename_i k m
   cases h : qC k m with
   | true => simpa [VR] using Iy h
   | false => simp [VR]
 . simp [VR]
 . rename_i s
   cases h : Nat.ble s.data.toList.length 1048576 with
   | true =>
     have := Nat.le_of_ble_eq_true h
     simp only [cond_true, VR]
     have h3 : s.data.toList.length ≤ maxLen := by unfold maxLen; omega
     simpa [VR] using h3
   | false => simp [VR]
 . simp only [VR]; exact ⟨none, 0, by simp, by simp, by simp [maxLen], by simp, .inl trivial⟩
 . simp [VR]
 . simp [VR]
 . simp [VR]
 . simp [VR]
 . simp [VR]
theorem zu {st : St} {g : a9} {n : Nat} : ∀ vs : List Value, aj st g (tW vs) n vs
 | [] => cj
 | v :: vs => bm (zt v) (zu vs)
theorem Gc {st : St} {g : a9} {n : Nat} (v : Value) : VR st g (tV v) n v := by
 unfold tV
 split
 . rename_i cs
   simp only [VR]
   exact ⟨cs, rfl, zu _⟩
 . exact zt v

theorem aL {E : Env} {st : St} {g : a9} {s : AS} {a : Act} {w : World} {C : Ctx} (R : Rel E st g s a w) (hg : aD C.gl st) (x : Operand) : VR st g (s.ev C x) s.sg.length (a.eval x) := by
 cases x with
 | tmp t => exact R.tm t
 | const v => exact Gc v
 | global b =>
   simp only [AS.ev, Act.eval]
   split
   . rename_i cs h
     obtain ⟨vs, h1, h2⟩ := hg b cs h g
     simp only [VR]
     exact ⟨b, 0, vs, rfl, h1, fun j hj => by rw [Nat.zero_add]; exact h2 j hj⟩
   . simp [VR]
 | func f =>
   simp only [AS.ev, Act.eval, VR]
   exact ⟨#[], #[], rfl, cj, cj⟩
theorem mS {E : Env} {st : St} {g : a9} {s : AS} {a : Act} {w : World} {C : Ctx} (R : Rel E st g s a w) (hg : aD C.gl st) : ∀ xs : List Operand, aj st g (s.aT C xs) s.sg.length (xs.map a.eval)
 | [] => cj
 | x :: xs => bm (aL R hg x) (mS R hg xs)

theorem lL : ∀ (up : List (Nat × O)) (sg : List O), (cB sg up).length = sg.length
 | [], sg => rfl
 | (i, o) :: r, sg => by simp only [cB]; rw [lL r, fV]; simp
theorem pP {E : Env} {st st' : St} {g g' : a9} {n n' : Nat} {ks : List Nat} (A : gO E st g n st' g' n' ks) {x : V} {v : Value} (h : VR st g x n v) : VR st' g' (x.kill ks) n' v :=
 dQ A.mono (fun i hi hn => ⟨Nat.lt_of_lt_of_le hn A.len, A.aG i hn (jE hi).1⟩) (nU h)

theorem Rel.app {E : Env} {st st' : St} {g g' : a9} {s : AS} {a : Act} {w w' : World} {d : Option Nat} {e : Ef} {v : Value} (R : Rel E st g s a w) (hd : cv s d = true)
   (A : gO E st g s.sg.length st' g' (s.app d e).sg.length e.ks) (W : ar E st' g' (s.app d e).sg w') (hv : VR st' g' e.v (s.app d e).sg.length v) : Rel E st' g' (s.app d e) (a.put d v) w' where
 nt := by
  cases d with
  | none => exact R.nt
  | some d => simp [Act.put, AS.app, R.nt]
 df := by cases d <;> exact R.df
 wr := W
 tm := fun t => by
   cases d with
   | none =>
     have h1 : lk (s.app none e).tm t = (lk s.tm t).kill e.ks := by simp only [AS.app]; exact jH _ _ _
     rw [h1]
     exact pP A (R.tm t)
   | some d =>
     have hlt : d < s.nt := by simpa [cv] using hd
     have h1 : lk (s.app (some d) e).tm t = cond (Nat.beq d t) e.v ((lk s.tm t).kill e.ks) := by simp only [AS.app, lk]; rw [jH]
     rw [h1]
     by_cases hdt : d = t
     . subst hdt
       rw [show Nat.beq d d = true from Nat.beq_refl d]
       simp only [cond_true, Act.put]
       rw [show (a.tmps.setIfInBounds d v).getD d undef = v by simp [R.nt, hlt]]
       exact hv
     . rw [show Nat.beq d t = false from by cases hb : Nat.beq d t with | false => rfl | true => exact absurd (Nat.eq_of_beq_eq_true hb) hdt]
       simp only [cond_false, Act.put]
       rw [show (a.tmps.setIfInBounds d v).getD t undef = a.tmps.getD t undef by simp [hdt]]
       exact pP A (R.tm t)

structure Good (C : Ctx) : Prop where
 ti : ∀ t, aw C.P t (C.ti t)
 mt : ∀ t m f, C.mt t m f → ∀ (v : Value) (w : World), (method (C.P.types.size + Made.depth) t v m).run C.P w = .ok (f, v) w
 hm : C.P.follows .mixedOrders = true

def ai (C : Ctx) (E : Env) (st : St) (g : a9) (s : AS) (a : Act) (w : World) (o : Oper) (e : Ef) : Prop :=
 ∀ (next : Act → World → Prop) (Q : Exit → Act → World → Prop), (∀ st' g' w' v, gO E st g s.sg.length st' g' (s.app o.dst e).sg.length e.ks → ar E st' g' (s.app o.dst e).sg w' →
  VR st' g' e.v (s.app o.dst e).sg.length v → next (a.put o.dst v) w') → o.wp C.P a w next Q

section
variable {C : Ctx} {E : Env} {st : St} {g : a9} {s : AS} {a : Act} {w : World} {o : Oper}

theorem ai.val {e : Ef} (v : Value) (w' : World) (st' : St) (g' : a9) (hr : (execOp a.eval o).run C.P w = .ok (.value v) w')
   (A : gO E st g s.sg.length st' g' (s.app o.dst e).sg.length e.ks) (W : ar E st' g' (s.app o.dst e).sg w') (hv : VR st' g' e.v (s.app o.dst e).sg.length v) : ai C E st g s a w o e := by
 intro next Q h
 unfold Oper.wp
 rw [hr]
 exact h st' g' w' v A W hv

theorem ai.skip {e : Ef} (w' : World) (st' : St) (g' : a9) (hr : (execOp a.eval o).run C.P w = .ok .skip w')
   (A : gO E st g s.sg.length st' g' (s.app o.dst e).sg.length e.ks) (W : ar E st' g' (s.app o.dst e).sg w') (hv : VR st' g' e.v (s.app o.dst e).sg.length undef) : ai C E st g s a w o e := by
 intro next Q h
 unfold Oper.wp
 rw [hr]
 exact h st' g' w' undef A W hv

theorem eA (s : AS) (d : Option Nat) (x : V) : (s.app d (pe x)).sg = s.sg := by simp [AS.app, pe, gw, cB, eZ]
theorem kb (s : AS) (d : Option Nat) (x : V) (rd : List Nat) : (s.app d ⟨x, [], [], [], rd⟩).sg = s.sg := by simp [AS.app, gw, cB, eZ]

theorem ai.pure {x : V} {rd : List Nat} (R : Rel E st g s a w) (v : Value) (w' : World) (hr : (execOp a.eval o).run C.P w = .ok (.value v) w') (hw : aF w w') (hv : VR st g x s.sg.length v) :
   ai C E st g s a w o ⟨x, [], [], [], rd⟩ := by
 refine ai.val v w' st g hr ⟨fun _ _ _ h => h, fun _ _ _ => rfl, ?_⟩ ?_ ?_
 . rw [kb]; exact Nat.le_refl _
 . rw [kb]; exact R.wr.same hw
 . rw [kb]; exact hv
end
end Go.VG
namespace Go.VG
open Go

section
variable {C : Ctx} {E : Env} {st : St} {g : a9} {s : AS} {a : Act} {w : World} {o : Oper} {e : Ef}

theorem mw (s : AS) (d : Option Nat) (x : V) (rd : List Nat) (ob : O) : (s.app d ⟨x, [], [], [ob], rd⟩).sg = s.sg ++ [ob] := by simp [AS.app, gw, cB, eZ]

theorem ai.new {x : V} {rd : List Nat} {ob : O} (R : Rel E st g s a w) (v : Value) (w1 : World) (hw : aF w w1) (gi : Gh) (oj : Obj)
   (hr : (execOp a.eval o).run C.P w = .ok (.value v) (w1.alloc oj)) (hb : ∀ b, gi.blk = some b → b = w1.heap.size)
   (ho : ct E st (ba g s.sg.length gi) (s.sg.length + 1) (w1.alloc oj) gi ob)
   (hv : VR st (ba g s.sg.length gi) x (s.sg.length + 1) v) : ai C E st g s a w o ⟨x, [], [], [ob], rd⟩ := by
 refine ai.val v _ st (ba g s.sg.length gi) hr ⟨fun _ _ _ h => h, fun i hi _ => c7 (Nat.ne_of_lt hi), ?_⟩ ?_ ?_
 . rw [mw]; simp
 . rw [mw]; exact (R.wr.same hw).Be oj gi ob hb ho
 . rw [mw]; simpa using hv

theorem ai.zn {rd : List Nat} {cs : List V} (R : Rel E st g s a w) (vs : Array Value) (el : TypeId)
   (hr : (execOp a.eval o).run C.P w = .ok (.value (.pointer (some ⟨w.heap.size, 0, none⟩))) (w.alloc (.cells vs el))) (hc : aj st g cs s.sg.length vs.toList) :
   ai C E st g s a w o ⟨.ptr s.sg.length 0, [], [], [.cells cs], rd⟩ := by
 refine ai.new R _ w (aF.refl w) ⟨some w.heap.size, none, 0, 0, 0⟩ _ hr (by simp) ?_ ?_
 . refine ⟨w.heap.size, vs, el, (0, 0), rfl, R.wr.gnew _ R.wr.size, heap_alloc_new, ?_, ⟨by simp, by intro o _; simp⟩, R.wr.iV⟩
   exact iG (fun _ _ _ h => h) (fun i _ hi => ⟨by omega, c7 (Nat.ne_of_lt hi)⟩) hc
 . simp only [VR]
   exact ⟨by omega, w.heap.size, by simp, rfl⟩

def a6 {α : Type} (p : α → Prop) (t : Tr α) : Prop := ∀ e, t (fun b => b = e) → p e
section
variable {α β : Type} {p : α → Prop}
theorem a6.ret {x : α} (h : p x) : a6 p (ret x) := by rintro _ ⟨⟩; exact h
theorem a6.fail : a6 p fail := fun _ h => h.elim
theorem a6.aq {A : Prop} {t : Tr α} (h : A → a6 p t) : a6 p (aq A t) := fun e he => h he.1 e he.2
theorem a6.when {b : Bool} {t : Tr α} (h : b = true → a6 p t) : a6 p (aR b t) := fun e he => by
 cases b with
 | false => exact he.elim
 | true => exact h rfl e he
theorem a6.opt {x : Option β} {f : β → Tr α} (h : ∀ y, x = some y → a6 p (f y)) : a6 p (cJ x f) := fun e he => by
 cases x with
 | none => exact he.elim
 | some y => exact h y rfl e he
theorem a6.bg {b : Bool} {t u : Tr α} (ht : b = true → a6 p t) (hu : b = false → a6 p u) : a6 p (iI b t u) := fun e he => by
 cases b with
 | false => exact hu rfl e he
 | true => exact ht rfl e he
theorem a6.cz {x : Option β} {f : β → Tr α} {u : Tr α} (h : ∀ y, x = some y → a6 p (f y)) (hu : x = none → a6 p u) : a6 p (cz x f u) := fun e he => by
 cases hx : x with
 | none => exact hu hx e (he.2 hx)
 | some y => exact h y hx e (he.1 y hx)
theorem a6.ex {f : β → Tr α} (h : ∀ y, a6 p (f y)) : a6 p (exT f) := fun e ⟨y, he⟩ => h y e he
theorem a6.bind {t : Tr β} {f : β → Tr α} (ht : a7 t) (h : ∀ y, (∀ K : β → Prop, K y → t K) → a6 p (f y)) : a6 p (dR t f) := fun e he => by
 obtain ⟨y, h1, h2⟩ := ht _ he
 exact h y h2 e h1
end
abbrev bD (C : Ctx) (E : Env) (st : St) (g : a9) (s : AS) (a : Act) (w : World) (o : Oper) (t : Tr Ef) : Prop := a6 (ai C E st g s a w o) t

theorem A8 {x : Operand} (R : Rel E st g s a w) (hg : aD C.gl st) (ho : o.op = .move x ∨ o.op = .assign x) : bD C E st g s a w o (force (s.ev C x) fun x => ret (pe x)) := by
 rw [force_eq]
 exact a6.ret (ai.pure R (a.eval x) w (by rcases ho with ho | ho <;> simp [execOp, ho]) (aF.refl w) (aL R hg x))

theorem HN {c x y : Operand} (R : Rel E st g s a w) (hg : aD C.gl st) (ho : o.op = .pick c x y) : bD C E st g s a w o (mQ C s c x y) := by
 unfold mQ
 have hc := aL R hg c
 split
 . rename_i t ht
   rw [ht] at hc
   simp only [VR] at hc
   simp only [force_eq]
   have hx := aL R hg x
   have hy := aL R hg y
   have hr : (execOp a.eval o).run C.P w = .ok (.value (if t then a.eval x else a.eval y)) w := by simp [execOp, ho, hc, asBool]
   split
   . rename_i bx bY h1 h2
     refine a6.ret (ai.pure R _ w hr (aF.refl w) ?_)
     rw [h1] at hx; rw [h2] at hy
     cases t
     . simpa [VR] using hy
     . simpa [VR] using hx
   . refine a6.bg (fun h => ?_) (fun h => ?_)
     . subst h; exact a6.ret (ai.pure R _ w hr (aF.refl w) (by simpa using hx))
     . subst h; exact a6.ret (ai.pure R _ w hr (aF.refl w) (by simpa using hy))
 . exact a6.fail

theorem Hj {t : TypeId} (R : Rel E st g s a w) (G : Good C) (ho : o.op = .alloc t) : bD C E st g s a w o (ke C s t) := by
 unfold ke
 split
 . exact a6.fail
 . rename_i hk
   simp only [force_eq, cy]
   refine a6.when fun hu => a6.ret ?_
   obtain ⟨z, hz, hz'⟩ := uu w (G.ti t) (fun h => hk h)
   refine ai.zn R z.cells t ?_ (gQ (hz' st g _) (by simpa using hu))
   simp [execOp, ho, Instr.alloc, hz, newVar, newRow]

theorem s_box {t : TypeId} {x : Operand} (R : Rel E st g s a w) (hg : aD C.gl st) (ho : o.op = .box t x) :
   bD C E st g s a w o (force (s.ev C x) fun x => aQ s.sg.length fun n => aR (!x.dn) (ret ⟨.ptr n 0, [], [], [.cells x.cells], []⟩)) := by
 simp only [force_eq, cy]
 refine a6.when fun hu => a6.ret ?_
 refine ai.zn R (a.eval x).cells t ?_ (gQ (aL R hg x) (by simpa using hu))
 simp [execOp, ho, Instr.box, newVar, newRow]

theorem zC {agg : Bool} {size off : Nat} {cs : List V} {v : V} (h : ∀ K : V → Prop, K v → fO agg size cs off K) :
   (agg = true ∧ (size = 0 ∨ off + size ≤ cs.length) ∧ v = .agg ((cs.drop off).take size)) ∨ (agg = false ∧ cs[off]? = some v) := by
 have h := h (fun x => x = v) rfl
 unfold fO at h
 cases agg
 . cases hr : ib cs off with
   | none => simp only [cJ, hr, dJ] at h
   | some r =>
     simp only [cJ, hr, dJ] at h
     rw [qz] at hr
     cases h
     exact .inr ⟨rfl, hr⟩
 . cases hr : fA (gR cs off) size with
   | none => simp only [cJ, hr, dJ] at h
   | some r =>
     simp only [cJ, hr, dJ] at h
     obtain ⟨h1, h2⟩ := vt hr
     rw [qj] at h1 h2
     subst h1
     cases h
     simp only [List.length_drop] at h2
     exact .inl ⟨rfl, by omega, rfl⟩

theorem rh {t : TypeId} {b o : Nat} {cs : List V} {vs : List Value} {v : V} {n : Nat} (G : Good C) (hk : (C.ti t).k ≠ .other) (hc : aj st g cs n vs)
   (hw : ∀ j, j < vs.length → w.cell? ⟨b, o + j, none⟩ = vs[j]?) {off : Nat} (h : ∀ K : V → Prop, K v → fO (C.ti t).k.isAgg (C.ti t).size cs off K) :
   ∃ u, (loadVar t ⟨b, o + off, none⟩).run C.P w = .ok u w ∧ VR st g v n u := by
 rcases zC h with ⟨h1, h2, rfl⟩ | ⟨h1, h2⟩
 . have hl := cY hc
   have hlen : (C.ti t).size = ((vs.drop off).take (C.ti t).size).length := by simp; omega
   refine ⟨.agg ((vs.drop off).take (C.ti t).size).toArray, ?_, ?_⟩
   . have := run_loadCells_list (P := C.P) w ⟨b, o + off, none⟩ ((vs.drop off).take (C.ti t).size) (fun j v hj => by
       rw [Addr.add_lit]
       rw [List.getElem?_take] at hj
       split at hj
       . rw [List.getElem?_drop] at hj
         have hlt : off + j < vs.length := by
          rcases Nat.lt_or_ge (off + j) vs.length with h' | h'
          . exact h'
          . simp [List.getElem?_eq_none h'] at hj
         have := hw (off + j) hlt
         rw [hj] at this
         rw [Nat.add_assoc]; exact this
       . cases hj)
     rw [← hlen] at this
     simp [loadVar, rb w (G.ti t) hk, h1, eV w (G.ti t) hk, this]
   . simp only [VR]
     exact ⟨_, rfl, by simpa using pU (pT hc)⟩
 . obtain ⟨u, h3, h4⟩ := iF hc h2
   have hlt : off < vs.length := by
    rcases Nat.lt_or_ge off vs.length with h' | h'
    . exact h'
    . simp [List.getElem?_eq_none h'] at h3
   refine ⟨u, ?_, h4⟩
   have := hw off hlt
   rw [h3] at this
   simp [loadVar, rb w (G.ti t) hk, h1, this]

theorem A7 {t : TypeId} {cs : List V} {vs : Array Value} {v : V} {n off : Nat} (G : Good C) (hk : (C.ti t).k ≠ .other) (hc : aj st g cs n vs.toList)
   (h : ∀ K : V → Prop, K v → fO (C.ti t).k.isAgg (C.ti t).size cs off K) : ∃ u, (part t vs off).run C.P w = .ok u w ∧ VR st g v n u := by
 rcases zC h with ⟨h1, h2, rfl⟩ | ⟨h1, h2⟩
 . refine ⟨.agg (vs.extract off (off + (C.ti t).size)), ?_, ?_⟩
   . simp [part, rb w (G.ti t) hk, h1, eV w (G.ti t) hk]
   . simp only [VR]
     refine ⟨_, rfl, ?_⟩
     rw [Array.toList_extract, List.extract_eq_take_drop]
     simpa using pU (pT hc)
 . obtain ⟨u, h3, h4⟩ := iF hc h2
   refine ⟨u, ?_, h4⟩
   have h3' : vs[off]? = some u := by simpa using h3
   simp [part, rb w (G.ti t) hk, h1, h3']

theorem sC {E : Env} {sg : List O} (W : ar E st g sg w) {i : Nat} {cs : List V} (hi : sg[i]? = some (.cells cs)) : ∃ b c el fr, (g i).blk = some b ∧ E.G b ∧ w.heap[b]? = some (.cells c el fr) ∧ aj st g cs sg.length c.toList ∧ ky c fr ∧ ∀ o, st b o = none :=
 W.ob i _ hi

theorem HB {t : TypeId} {x : Operand} (R : Rel E st g s a w) (hg : aD C.gl st) (G : Good C) (ho : o.op = .load t x) : bD C E st g s a w o (jB C s t x) := by
 unfold jB
 simp only [iR]
 split
 . exact a6.fail
 rename_i hk
 have hk : (C.ti t).k ≠ .other := fun h => hk h
 have hx := aL R hg x
 split
 . rename_i cs off he
   rw [he] at hx
   simp only [VR] at hx
   obtain ⟨b, of, vs, h1, h2, h3⟩ := hx
   refine a6.bind (cS _ _ _ _) fun v hv => ?_
   rw [force_eq]
   have hcell : ∀ j, j < vs.length → w.cell? ⟨b, of + j, none⟩ = vs[j]? := fun j hj => by
    have h4 := h3 j hj
    rw [List.getElem?_eq_getElem hj] at h4 ⊢
    exact R.wr.stw _ _ _ h4
   obtain ⟨u, h5, h6⟩ := rh (w := w) (b := b) (o := of) G hk h2 hcell hv
   refine a6.ret (ai.pure R u w ?_ (aF.refl w) (dQ (fun _ _ _ h => h) (fun i _ hi => absurd hi (Nat.not_lt_zero _)) h6))
   simp [execOp, ho, Instr.loadAt, h1, Instr.sureAddr, h5]
 . rename_i i off he
   rw [he] at hx
   simp only [VR] at hx
   obtain ⟨hi, b, hb, h1⟩ := hx
   split
   . rename_i cs hs
     obtain ⟨hs1, _⟩ := dm hs (by simp)
     obtain ⟨b', c, el, fr, k1, k2, k3, k4, k5, k6⟩ := sC R.wr hs1
     rw [hb] at k1; cases k1
     refine a6.bind (cS _ _ _ _) fun v hv => ?_
     rw [force_eq]
     have hcell : ∀ j, j < c.toList.length → w.cell? ⟨b, 0 + j, none⟩ = c.toList[j]? := fun j hj => by rw [eB k3]; simp
     obtain ⟨u, h5, h6⟩ := rh (w := w) (b := b) (o := 0) G hk k4 hcell hv
     refine a6.ret (ai.pure R u w ?_ (aF.refl w) h6)
     rw [Nat.zero_add] at h5
     simp [execOp, ho, Instr.loadAt, h1, Instr.sureAddr, h5]
   . exact a6.fail
 . rename_i i idx off he
   rw [he] at hx
   simp only [VR] at hx
   obtain ⟨hi, b, hb, h1⟩ := hx
   split
   . rename_i sz pre l hs
     obtain ⟨hs1, _⟩ := dm hs (by simp)
     obtain ⟨q1, q2, q3, q4, q5, q6, q7⟩ := R.wr.ob i _ hs1
     refine a6.opt fun y hy => a6.when fun hu => a6.bind (cS _ _ _ _) fun v hv => ?_
     rw [force_eq]
     rcases q7 with ⟨_, q7⟩ | ⟨b', c, el, fr, k1, k2, k3, k4, k5, k6, _⟩
     . rw [hb] at q7; cases q7
     . rw [hb] at k1; cases k1
       obtain ⟨u, r1, r2, r3, r4⟩ := eM.1 k6 idx y hy
       have r5 := gQ r1 (by simpa using hu)
       have hcell : ∀ j, j < u.cells.toList.length → w.cell? ⟨b, idx * sz + j, none⟩ = u.cells.toList[j]? := fun j hj => by
        rw [eB k4]
        have := r4 j (by rw [← r2]; simpa using hj)
        rw [Nat.zero_add] at this
        simpa using this
       obtain ⟨u', h5, h6⟩ := rh (w := w) (b := b) (o := idx * sz) G hk r5 hcell hv
       refine a6.ret (ai.pure R u' w ?_ (aF.refl w) (dQ (fun _ _ _ h => h) (fun i _ hi => absurd hi (Nat.not_lt_zero _)) h6))
       rw [q2] at h1
       simp [execOp, ho, Instr.loadAt, h1, Instr.sureAddr, h5]
   . exact a6.fail
 . exact a6.fail

theorem HM {x : Operand} (R : Rel E st g s a w) (hg : aD C.gl st) (ho : o.op = .nilCheck x) : bD C E st g s a w o (ku C s x) := by
 unfold ku
 have hx := aL R hg x
 split
 all_goals first
  | exact a6.fail
  | skip
 all_goals
  rename_i he
  rw [he] at hx
  have hx' := hx
  simp only [VR] at hx
 . obtain ⟨_, b, _, h1⟩ := hx
   exact a6.ret (ai.pure R (a.eval x) w (by simp [execOp, ho, h1]) (aF.refl w) hx')
 . obtain ⟨_, b, _, h1⟩ := hx
   exact a6.ret (ai.pure R (a.eval x) w (by simp [execOp, ho, h1]) (aF.refl w) hx')
 . obtain ⟨b, _, _, h1, _⟩ := hx
   exact a6.ret (ai.pure R (a.eval x) w (by simp [execOp, ho, h1]) (aF.refl w) hx')
 . obtain ⟨b, _, h1, _⟩ := hx
   exact a6.ret (ai.pure R (a.eval x) w (by simp [execOp, ho, h1]) (aF.refl w) hx')
 . obtain ⟨b, h1, _⟩ := hx
   exact a6.ret (ai.pure R (a.eval x) w (by simp [execOp, ho, h1]) (aF.refl w) hx')

theorem HE {t : TypeId} {x : Operand} (R : Rel E st g s a w) (hg : aD C.gl st) (G : Good C) (ho : o.op = .makeInterface t x) : bD C E st g s a w o (mO C s t x) := by
 unfold mO
 split
 . exact a6.fail
 . exact a6.fail
 . rename_i h1 h2
   rw [force_eq]
   refine a6.when fun hu => a6.ret ?_
   refine ai.pure R (.iface t (a.eval x)) w ?_ (aF.refl w) (by simp only [VR]; exact ⟨_, rfl, aL R hg x⟩)
   obtain ⟨h3, _⟩ := (G.ti t).of (fun h => h1 h)
   cases hk' : (C.ti t).k <;> rw [hk'] at h3 <;> simp only [TK.ok] at h3
   case struct fs => obtain ⟨f, h3, _⟩ := h3; simp [execOp, ho, Instr.makeInterface, run_underlying h3]
   case iface => exact absurd hk' (fun h => h2 h)
   case func => obtain ⟨p, q, r, h3⟩ := h3; simp [execOp, ho, Instr.makeInterface, run_underlying h3]
   all_goals simp [execOp, ho, Instr.makeInterface, run_underlying h3]

theorem HD {fn : Fn} {xs ys : Array Operand} (R : Rel E st g s a w) (hg : aD C.gl st) (ho : o.op = .makeFunc fn xs ys) :
   bD C E st g s a w o (kA (s.aT C xs.toList) fun a => kA (s.aT C ys.toList) fun b => ret (pe (.func fn a b))) := by
 simp only [mW]
 refine a6.ret (ai.pure R (.func fn (xs.map a.eval) (ys.map a.eval)) w (by simp [execOp, ho, Instr.makeFunc]) (aF.refl w) ?_)
 simp only [VR]
 exact ⟨_, _, rfl, by simpa using mS R hg xs.toList, by simpa using mS R hg ys.toList⟩

theorem Hu {x : Operand} {i : Nat} (R : Rel E st g s a w) (hg : aD C.gl st) (ho : o.op = .extract x i) : bD C E st g s a w o (mL C s x i) := by
 unfold mL
 have hx := aL R hg x
 split
 . rename_i vs he
   rw [he] at hx
   simp only [VR] at hx
   obtain ⟨us, h1, h2⟩ := hx
   refine a6.opt fun v hv => ?_
   rw [force_eq]
   rw [qz] at hv
   obtain ⟨u, h3, h4⟩ := iF h2 hv
   have h3' : us[i]? = some u := by simpa using h3
   exact a6.ret (ai.pure R u w (by simp [execOp, ho, h1, Instr.extract, h3']) (aF.refl w) h4)
 . exact a6.fail

theorem xG : ∀ {fs : List (Nat × TypeId)} {i : Nat} {x : Nat × TypeId}, j8 fs i = some x → fs[i]? = some x
 | [], i, x, h => by simp [j8] at h
 | y :: ys, 0, x, h => by simpa [j8] using h
 | y :: ys, i + 1, x, h => by simpa [j8] using xG (fs := ys) (by simpa [j8] using h)
theorem sW {fields : Array Field} {fs : List (Nat × TypeId)} (h : fields.toList.map (fun f => (f.offset, f.type)) = fs) {i : Nat} {x : Nat × TypeId} (hx : j8 fs i = some x) :
   ∃ f, fields[i]? = some f ∧ f.offset = x.1 ∧ f.type = x.2 := by
 have := xG hx
 rw [← h, List.getElem?_map] at this
 cases hf : fields.toList[i]? with
 | none => rw [hf] at this; cases this
 | some f => rw [hf] at this; cases this; exact ⟨f, by simpa using hf, rfl, rfl⟩

theorem Hv {t : TypeId} {x : Operand} {f : Nat} (R : Rel E st g s a w) (hg : aD C.gl st) (G : Good C) (ho : o.op = .field t x f) : bD C E st g s a w o (ki C s t x f) := by
 unfold ki
 have hx := aL R hg x
 split
 . rename_i fs cs hk he
   rw [he] at hx
   simp only [VR] at hx
   obtain ⟨us, h1, h2⟩ := hx
   obtain ⟨h3, _⟩ := (G.ti t).of (by rw [hk]; simp)
   rw [hk] at h3
   obtain ⟨fields, h3, h4, _⟩ := h3
   refine a6.opt fun ft hft => ?_
   split
   . exact a6.fail
   rename_i hk2
   refine a6.bind (cS _ _ _ _) fun v hv => ?_
   rw [force_eq]
   obtain ⟨fd, h5, h6, h7⟩ := sW h4 hft
   obtain ⟨u, h8, h9⟩ := A7 (w := w) G (fun h => hk2 h) h2 hv
   refine a6.ret (ai.pure R u w ?_ (aF.refl w) h9)
   simp [execOp, ho, Instr.field, run_underlying h3, h5, h1, asAgg, h6, h7, h8]
 . exact a6.fail

theorem Hw {t : TypeId} {x : Operand} {f : Nat} (R : Rel E st g s a w) (hg : aD C.gl st) (G : Good C) (ho : o.op = .fieldAddr t x f) : bD C E st g s a w o (kj C s t x f) := by
 unfold kj
 have hx := aL R hg x
 split
 . rename_i fs hk
   obtain ⟨h3, _⟩ := (G.ti t).of (by rw [hk]; simp)
   rw [hk] at h3
   obtain ⟨fields, h3, h4, _⟩ := h3
   refine a6.opt fun ft hft => ?_
   split
   . exact a6.fail
   rename_i hk2
   refine a6.when fun hsz => ?_
   obtain ⟨fd, h5, h6, h7⟩ := sW h4 hft
   have hsz' := Nat.le_of_ble_eq_true hsz
   have hs0 : ¬ (C.ti fd.type).size = 0 := by rw [h7]; omega
   have hrs := eV w (G.ti fd.type) (by rw [h7]; exact fun h => hk2 h)
   have hr : ∀ ad : Addr, a.eval x = .pointer (some ad) → (execOp a.eval o).run C.P w = .ok (.value (.pointer (some (ad.add ft.1)))) w := fun ad had => by
    simp [execOp, ho, Instr.fieldAt, run_underlying h3, h5, had, Instr.sureAddr, fieldPlace, hrs, hs0, h6]
   split
   . rename_i i off he
     rw [he] at hx
     simp only [VR] at hx
     obtain ⟨hi, b, hb, h1⟩ := hx
     rw [cy]
     refine a6.ret (ai.pure R _ w (hr _ h1) (aF.refl w) ?_)
     simp only [VR]
     exact ⟨hi, b, hb, by rw [Addr.add_lit]⟩
   . rename_i i j off he
     rw [he] at hx
     simp only [VR] at hx
     obtain ⟨hi, b, hb, h1⟩ := hx
     rw [cy]
     refine a6.ret (ai.pure R _ w (hr _ h1) (aF.refl w) ?_)
     simp only [VR]
     exact ⟨hi, b, hb, by rw [Addr.add_lit, Nat.add_assoc]⟩
   . rename_i cs off he
     rw [he] at hx
     simp only [VR] at hx
     obtain ⟨b, of, vs, h1, h2, h8⟩ := hx
     rw [cy]
     refine a6.ret (ai.pure R _ w (hr _ h1) (aF.refl w) ?_)
     simp only [VR]
     exact ⟨b, of, vs, by rw [Addr.add_lit, Nat.add_assoc], h2, h8⟩
   . exact a6.fail
 . exact a6.fail
end
end Go.VG
