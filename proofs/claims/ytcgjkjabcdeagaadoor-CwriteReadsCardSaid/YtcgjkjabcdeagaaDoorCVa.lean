/-
  What a writer of structs has written, whatever it was told (plain law).
-/
import Derived.Test.YtcgjkjabcdeagaaDoorCRf
set_option linter.unusedSimpArgs false
set_option linter.unusedVariables false
set_option maxHeartbeats 4000000
namespace Go.Proofs.YtcgjkjabcdeagaaDoor
open Go Go.VG
set_option maxRecDepth 100000
structure Fw where
  id : Int
  k : Int
  x : List UInt8
def fdB : Int → List Fw → List UInt8
  | _, [] => []
  | a, f :: l => pfield a f.id (byte f.k) ++ (f.x ++ fdB f.id l)
def lastF : Int → List Fw → Int
  | a, [] => a
  | _, f :: l => lastF f.id l
def kR (k : Int) : Prop := 1 ≤ k ∧ k ≤ 12
def tru (k : Int) : Prop := k = 1 ∨ k = 2
/-- the bytes of a value of a kind, behind its head, with room for so many within one another -/
inductive VT : Nat → Int → List UInt8 → Prop
  | no (d : Nat) (k : Int) (h : tru k) : VT d k []
  | one (d : Nat) (b : UInt8) : VT d 3 [b]
  | num (d : Nat) (k n : Int) (h : k = 4 ∨ k = 5 ∨ k = 6) (hf : fitC n (bitsK k) = 0) (hn : -9223372036854775808 ≤ n ∧ n ≤ 9223372036854775807) : VT d k (vput (zigN n))
  | dbl (d u : Nat) (h : u < 18446744073709551616) : VT d 7 (low 8 u)
  | txt (d : Nat) (t : List UInt8) (h : t.length < 1000000000) : VT d 8 (vput t.length ++ t)
  | lst (d : Nat) (k : Int) (l : List (List UInt8)) (hk : kR k) (hn : l.length ≤ 2147483647) (h : ¬ tru k → ∀ x ∈ l, VT d k x) (ht : tru k → ∀ x ∈ l, x = [1] ∨ x = [2]) : VT (d + 1) 9 (plist l.length (byte k) ++ l.flatten)
  | str (d : Nat) (l : List Fw) (hr : ∀ f ∈ l, inR f.id ∧ kR f.k) (h : ∀ f ∈ l, VT d f.k f.x) : VT (d + 1) 12 (fdB 0 l ++ [0])
def ItP (d : Nat) (k : Int) (x : List UInt8) : Prop := (¬ tru k → VT d k x) ∧ (tru k → x = [1] ∨ x = [2])
def FwOk (d : Nat) (l : List Fw) : Prop := (∀ f ∈ l, inR f.id ∧ kR f.k) ∧ ∀ f ∈ l, VT d f.k f.x
theorem fdB_snoc (f : Fw) : ∀ (l : List Fw) (a : Int), fdB a (l ++ [f]) = fdB a l ++ (pfield (lastF a l) f.id (byte f.k) ++ f.x) ∧ lastF a (l ++ [f]) = f.id
  | [], a => by
    show pfield a f.id (byte f.k) ++ (f.x ++ []) = [] ++ _ ∧ _
    rw [List.append_nil]; exact ⟨rfl, rfl⟩
  | g :: l, a => by
    obtain ⟨h1, h2⟩ := fdB_snoc f l g.id
    refine ⟨?_, h2⟩
    show pfield a g.id (byte g.k) ++ (g.x ++ fdB g.id (l ++ [f])) = (pfield a g.id (byte g.k) ++ (g.x ++ fdB g.id l)) ++ (pfield (lastF g.id l) f.id (byte f.k) ++ f.x)
    rw [h1]; simp only [List.append_assoc]
/-- structs and lists that are open, at a value that has to be so -/
inductive Fo (z : Nat) : Nat → (List UInt8 → Prop) → List UInt8 → List Pl → Prop
  | top (l : List (List UInt8)) (h : ∀ x ∈ l, VT 32 12 x) (hz : l.length ≤ z) : Fo z 32 (VT 32 12) l.flatten []
  | fld (d : Nat) (P : List UInt8 → Prop) (o : List UInt8) (f : List Pl) (l : List Fw) (id k : Int) (h : Fo z (d + 1) P o f) (hP : ∀ y, VT (d + 1) 12 y → P y) (hl : FwOk d l) (hi : inR id) (hk : kR k) : Fo z d (VT d k) (o ++ (fdB 0 l ++ pfield (lastF 0 l) id (byte k))) (f ++ [⟨false, id, 0, 0⟩])
  | itm (d : Nat) (P : List UInt8 → Prop) (o : List UInt8) (f : List Pl) (l : List (List UInt8)) (n : Nat) (k : Int) (h : Fo z (d + 1) P o f) (hP : ∀ y, VT (d + 1) 9 y → P y) (hl : ∀ x ∈ l, ItP d k x) (hn : l.length < n) (hm : n ≤ 2147483647) (hk : kR k) : Fo z d (ItP d k) (o ++ (plist n (byte k) ++ l.flatten)) (f ++ [⟨true, 0, n - (l.length + 1 : Nat), k⟩])
theorem Fo.len {z : Nat} {d : Nat} {P : List UInt8 → Prop} {o : List UInt8} {f : List Pl} (h : Fo z d P o f) : f.length + d = 32 := by
  induction h with
  | top => rfl
  | fld => rw [List.length_append, List.length_singleton]; omega
  | itm => rw [List.length_append, List.length_singleton]; omega
/-- what a writer holds -/
inductive CI (z : Nat) : CS → Prop
  | bad (w : CS) (h : w.code ≠ 0) : CI z w
  | top (l : List (List UInt8)) (h : ∀ x ∈ l, VT 32 12 x) (hz : l.length ≤ z) : CI z ⟨l.flatten, [], 0⟩
  | str (d : Nat) (P : List UInt8 → Prop) (o : List UInt8) (f : List Pl) (l : List Fw) (h : Fo z (d + 1) P o f) (hP : ∀ y, VT (d + 1) 12 y → P y) (hl : FwOk d l) : CI z ⟨o ++ fdB 0 l, f ++ [⟨false, lastF 0 l, 0, 0⟩], 0⟩
  | lst (d : Nat) (P : List UInt8 → Prop) (o : List UInt8) (f : List Pl) (l : List (List UInt8)) (n : Nat) (k : Int) (h : Fo z (d + 1) P o f) (hP : ∀ y, VT (d + 1) 9 y → P y) (hl : ∀ x ∈ l, ItP d k x) (hn : l.length ≤ n) (hm : n ≤ 2147483647) (hk : kR k) : CI z ⟨o ++ (plist n (byte k) ++ l.flatten), f ++ [⟨true, 0, n - (l.length : Nat), k⟩], 0⟩
theorem Fo.mono {z d : Nat} {P : List UInt8 → Prop} {o : List UInt8} {f : List Pl} (h : Fo z d P o f) : Fo (z + 1) d P o f := by
  induction h with
  | top l h hz => exact .top l h (by omega)
  | fld d P o f l id k _ hP hl hi hk ih => exact .fld d P o f l id k ih hP hl hi hk
  | itm d P o f l n k _ hP hl hn hm hk ih => exact .itm d P o f l n k ih hP hl hn hm hk
theorem CI.mono {z : Nat} {w : CS} (h : CI z w) : CI (z + 1) w := by
  cases h with
  | bad _ h => exact .bad _ h
  | top l h hz => exact .top l h (by omega)
  | str d P o f l h hP hl => exact .str d P o f l h.mono hP hl
  | lst d P o f l n k h hP hl hn hm hk => exact .lst d P o f l n k h.mono hP hl hn hm hk
theorem Fo.val {z : Nat} {d : Nat} {P : List UInt8 → Prop} {o x : List UInt8} {f : List Pl} (h : Fo z d P o f) (hx : P x) : CI (z + 1) ⟨o ++ x, f, 0⟩ := by
  cases h with
  | top l h hz =>
    have := CI.top (z := z + 1) (l ++ [x]) (fun y hy => by
      rcases List.mem_append.1 hy with hy | hy
      · exact h y hy
      · rw [List.mem_singleton.1 hy]; exact hx) (by rw [List.length_append, List.length_singleton]; omega)
    rw [show (l ++ [x]).flatten = l.flatten ++ x by simp] at this
    exact this
  | fld _ P o f l id k h hP hl hi hk =>
    have := CI.str d P o f (l ++ [⟨id, k, x⟩]) h.mono hP ⟨fun y hy => by
      rcases List.mem_append.1 hy with hy | hy
      · exact hl.1 y hy
      · rw [List.mem_singleton.1 hy]; exact ⟨hi, hk⟩, fun y hy => by
      rcases List.mem_append.1 hy with hy | hy
      · exact hl.2 y hy
      · rw [List.mem_singleton.1 hy]; exact hx⟩
    obtain ⟨e1, e2⟩ := fdB_snoc ⟨id, k, x⟩ l 0
    rw [e1, e2] at this
    rw [show (o ++ (fdB 0 l ++ pfield (lastF 0 l) id (byte k))) ++ x = o ++ (fdB 0 l ++ (pfield (lastF 0 l) id (byte k) ++ x)) by simp]
    exact this
  | itm _ P o f l n k h hP hl hn hm hk =>
    have := CI.lst d P o f (l ++ [x]) n k h.mono hP (fun y hy => by
      rcases List.mem_append.1 hy with hy | hy
      · exact hl y hy
      · rw [List.mem_singleton.1 hy]; exact hx) (by rw [List.length_append, List.length_singleton]; omega) hm hk
    rw [show (l ++ [x]).flatten = l.flatten ++ x by simp, List.length_append, List.length_singleton] at this
    rw [show (o ++ (plist n (byte k) ++ l.flatten)) ++ x = o ++ (plist n (byte k) ++ (l.flatten ++ x)) by simp]
    exact this
theorem topL (o : List UInt8) (f : List Pl) (p : Pl) (c : Int) : CS.top ⟨o, f ++ [p], c⟩ = p := by simp [CS.top]
theorem setTopL (o : List UInt8) (f : List Pl) (p q : Pl) (c : Int) : CS.setTop ⟨o, f ++ [p], c⟩ q = ⟨o, f ++ [q], c⟩ := by simp [CS.setTop]
theorem may_errF {w : CS} {id k : Int} (h : ¬ (w.may id k).2 = true) : (w.may id k).1.code ≠ 0 := by
  unfold CS.may at h ⊢
  repeat' split
  all_goals first
    | assumption
    | (show (12 : Int) ≠ 0; decide)
    | (show (4 : Int) ≠ 0; decide)
    | (exfalso; simp_all; done)
theorem pfield_no {a id k : Int} (hk : 0 ≤ k ∧ k ≤ 255) (h : ¬ (pfield a id (byte k)).length = 0) : kR k ∧ inR id := by
  have hkn : ((byte k).toNat : Int) = k := byte_toNat (by omega)
  unfold pfield at h
  by_cases c : ¬ (1 ≤ (byte k).toNat ∧ (byte k).toNat ≤ 12) ∨ id < -32768 ∨ id > 32767
  · rw [if_pos c] at h; exact absurd rfl h
  · exact ⟨⟨by omega, by omega⟩, by unfold inR; omega⟩
theorem plist_no {n k : Int} (hk : 0 ≤ k ∧ k ≤ 255) (h : ¬ (plist n (byte k)).length = 0) : kR k ∧ 0 ≤ n ∧ n ≤ 2147483647 := by
  have hkn : ((byte k).toNat : Int) = k := byte_toNat (by omega)
  unfold plist at h
  by_cases c : ¬ (1 ≤ (byte k).toNat ∧ (byte k).toNat ≤ 12) ∨ n < 0 ∨ n > 2147483647
  · rw [if_pos c] at h; exact absurd rfl h
  · exact ⟨⟨by omega, by omega⟩, by omega, by omega⟩
theorem same_k {q k : Int} (hq : kR q) (hk : 0 ≤ k ∧ k ≤ 255) (h : sameK (byte q) (byte k) = true) : q = k ∨ (tru q ∧ tru k) := by
  have h1 : ((byte k).toNat : Int) = k := byte_toNat (by omega)
  have h2 : ((byte q).toNat : Int) = q := byte_toNat (by unfold kR at hq; omega)
  have := sameK_t.1 h
  unfold tru
  omega
/-- a value where one may stand -/
theorem CI.may {z : Nat} {w : CS} {id k : Int} (h : CI z w) (hk : 0 ≤ k ∧ k ≤ 255) (hm : (w.may id k).2 = true) : ∃ d P o f, (w.may id k).1 = ⟨o, f, 0⟩ ∧ Fo z d P o f ∧ f.length = w.l.length ∧
    (((w.may id k).1.top.li = false ∧ P = VT d k) ∨ ((w.may id k).1.top.li = true ∧ ∃ q, P = ItP d q ∧ (q = k ∨ (tru q ∧ tru k)))) := by
  cases h with
  | bad _ h => unfold CS.may at hm; rw [if_pos h] at hm; cases hm
  | top l h hz =>
    unfold CS.may at hm
    rw [if_neg (by simp), if_pos (by simp)] at hm; cases hm
  | str d P o f l h hP hl =>
    have e : CS.may ⟨o ++ fdB 0 l, f ++ [⟨false, lastF 0 l, 0, 0⟩], 0⟩ id k = if (pfield (lastF 0 l) id (byte k)).length = 0 then (⟨o ++ fdB 0 l, f ++ [⟨false, lastF 0 l, 0, 0⟩], 4⟩, false) else (⟨(o ++ fdB 0 l) ++ pfield (lastF 0 l) id (byte k), f ++ [⟨false, id, 0, 0⟩], 0⟩, true) := by
      unfold CS.may
      rw [topL, if_neg (by simp), if_neg (by simp), if_neg (by simp), setTopL]
    rw [e] at hm ⊢
    by_cases c : (pfield (lastF 0 l) id (byte k)).length = 0
    · rw [if_pos c] at hm; cases hm
    rw [if_neg c]
    obtain ⟨h1, h2⟩ := pfield_no hk c
    have := Fo.fld d P o f l id k h hP hl h2 h1
    rw [List.append_assoc]
    exact ⟨_, _, _, _, rfl, this, by simp, .inl ⟨by rw [topL], rfl⟩⟩
  | lst d P o f l n q h hP hl hn hm' hq =>
    have e : CS.may ⟨o ++ (plist n (byte q) ++ l.flatten), f ++ [⟨true, 0, n - (l.length : Nat), q⟩], 0⟩ id k = if (n : Int) - (l.length : Nat) = 0 then (⟨o ++ (plist n (byte q) ++ l.flatten), f ++ [⟨true, 0, n - (l.length : Nat), q⟩], 12⟩, false) else if sameK (byte q) (byte k) = true then (⟨o ++ (plist n (byte q) ++ l.flatten), f ++ [⟨true, 0, IntKind.i64.wrap ((n : Int) - (l.length : Nat) - 1), q⟩], 0⟩, true) else (⟨o ++ (plist n (byte q) ++ l.flatten), f ++ [⟨true, 0, n - (l.length : Nat), q⟩], 12⟩, false) := by
      unfold CS.may
      rw [topL, setTopL, if_neg (by simp), if_neg (by simp), if_pos rfl]
    rw [e] at hm ⊢
    by_cases c : (n : Int) - (l.length : Nat) = 0
    · rw [if_pos c] at hm; cases hm
    rw [if_neg c] at hm ⊢
    by_cases c2 : sameK (byte q) (byte k) = true
    · rw [if_pos c2]
      have hw : IntKind.i64.wrap ((n : Int) - (l.length : Nat) - 1) = (n : Int) - (l.length + 1 : Nat) := by rw [wi64]; omega
      rw [hw]
      have := Fo.itm d P o f l n q h hP hl (by omega) hm' hq
      exact ⟨_, _, _, _, rfl, this, by simp, .inr ⟨by rw [topL], q, rfl, same_k hq hk c2⟩⟩
    · rw [if_neg c2] at hm; cases hm
theorem CI.put {z : Nat} {w : CS} (h : CI z w) {id k : Int} {x : List UInt8} (hk : 0 ≤ k ∧ k ≤ 255) (ht : ¬ tru k) (hx : ∀ d, VT d k x) : CI (z + 1) (w.put id k x) := by
  unfold CS.put
  by_cases hm : (w.may id k).2 = true
  · rw [if_pos hm]
    obtain ⟨d, P, o, f, e, hf, _, hP⟩ := h.may hk hm
    rw [e] at hP ⊢
    refine hf.val ?_
    rcases hP with ⟨_, rfl⟩ | ⟨_, q, rfl, hq⟩
    · exact hx d
    · rcases hq with rfl | ⟨_, h2⟩
      · exact ⟨fun _ => hx d, fun q => absurd q ht⟩
      · exact absurd h2 ht
  · rw [if_neg hm]; exact .bad _ (may_errF hm)
theorem CI.flagK {z : Nat} {w : CS} (h : CI z w) {id k : Int} (hk : tru k) : CI (z + 1) (w.flagK id k) := by
  unfold CS.flagK
  have hk2 : 0 ≤ k ∧ k ≤ 255 := by unfold tru at hk; omega
  by_cases hm : (w.may id k).2 = true
  · rw [if_pos hm]
    obtain ⟨d, P, o, f, e, hf, _, hP⟩ := h.may hk2 hm
    rw [e] at hP ⊢
    rcases hP with ⟨hli, rfl⟩ | ⟨hli, q, rfl, hq⟩
    · rw [if_neg (by rw [hli]; decide)]
      have := hf.val (.no d k hk)
      rw [List.append_nil] at this; exact this
    · rw [if_pos hli]
      refine hf.val ⟨fun hn => ?_, fun _ => ?_⟩
      · rcases hq with rfl | ⟨h1, _⟩
        · exact absurd hk hn
        · exact absurd h1 hn
      · rcases hk with rfl | rfl
        · exact .inl rfl
        · exact .inr rfl
  · rw [if_neg hm]; exact .bad _ (may_errF hm)
theorem CI.whole {z : Nat} {w : CS} (h : CI z w) {id k n : Int} (hn : -9223372036854775808 ≤ n ∧ n ≤ 9223372036854775807) : CI (z + 1) (w.whole id k n) := by
  unfold CS.whole
  by_cases h0 : w.code ≠ 0
  · rw [if_pos h0]; exact h.mono
  rw [if_neg h0]
  by_cases h1 : bitsK k = 0
  · rw [if_pos h1]; exact .bad _ (show (7 : Int) ≠ 0 by decide)
  rw [if_neg h1]
  by_cases h2 : fitC n (bitsK k) ≠ 0
  · rw [if_pos h2]; exact .bad _ h2
  rw [if_neg h2]
  have hk : k = 3 ∨ k = 4 ∨ k = 5 ∨ k = 6 := by
    unfold bitsK at h1
    repeat' split at h1
    all_goals first | omega | exact absurd rfl h1
  refine h.put (by omega) (by unfold tru; omega) fun d => ?_
  by_cases h3 : k = 3
  · subst h3; rw [if_pos rfl]; exact .one d _
  · rw [if_neg h3]; exact .num d k n (by omega) (by omega) hn
theorem CI.begin {z : Nat} {d : Nat} {P : List UInt8 → Prop} {o : List UInt8} {f : List Pl} (h : Fo z (d + 1) P o f) (hP : ∀ y, VT (d + 1) 12 y → P y) : CI z (CS.begin ⟨o, f, 0⟩ ⟨false, 0, 0, 0⟩) := by
  have := CI.str d P o f [] h hP ⟨fun f hf => (by cases hf), fun f hf => (by cases hf)⟩
  rw [show o ++ fdB 0 [] = o from List.append_nil o] at this
  exact this
theorem P_of {d : Nat} {k q : Int} {P : List UInt8 → Prop} {b : Bool} (hk : ¬ tru k) (h : (b = false ∧ P = VT d k) ∨ (b = true ∧ ∃ q, P = ItP d q ∧ (q = k ∨ (tru q ∧ tru k)))) : ∀ y, VT d k y → P y := by
  intro y hy
  rcases h with ⟨_, rfl⟩ | ⟨_, q, rfl, hq⟩
  · exact hy
  · rcases hq with rfl | ⟨_, h2⟩
    · exact ⟨fun _ => hy, fun q => absurd q hk⟩
    · exact absurd h2 hk
theorem CI.struct {z : Nat} {w : CS} (h : CI z w) (id : Int) : CI (z + 1) (w.struct id) := by
  unfold CS.struct
  by_cases h0 : w.code ≠ 0
  · rw [if_pos h0]; exact h.mono
  rw [if_neg h0]
  by_cases h1 : w.l.length ≥ 32
  · rw [if_pos h1]; exact .bad _ (show (33 : Int) ≠ 0 by decide)
  rw [if_neg h1]
  by_cases h2 : w.l.length = 0
  · rw [if_pos h2]
    cases h with
    | bad _ h => exact absurd h h0
    | top l h hz => exact (CI.begin (d := 31) (.top l h hz) fun y hy => hy).mono
    | str d P o f l h hP hl => simp at h2
    | lst d P o f l n q h hP hl hn hm' hq => simp at h2
  rw [if_neg h2]
  by_cases hm : (w.may id 12).2 = true
  · rw [if_pos hm]
    obtain ⟨d, P, o, f, e, hf, hlen, hP⟩ := h.may (by decide) hm
    rw [e] at hP ⊢
    have := hf.len
    obtain ⟨d, rfl⟩ : ∃ m, d = m + 1 := ⟨d - 1, by omega⟩
    exact (CI.begin hf (P_of (q := 0) (by unfold tru; omega) hP)).mono
  · rw [if_neg hm]; exact .bad _ (may_errF hm)
theorem CI.list {z : Nat} {w : CS} (h : CI z w) {id n k : Int} (hk : 0 ≤ k ∧ k ≤ 255) : CI (z + 1) (w.list id n k) := by
  unfold CS.list
  by_cases h0 : w.code ≠ 0
  · rw [if_pos h0]; exact h.mono
  rw [if_neg h0]
  by_cases h1 : w.l.length ≥ 32
  · rw [if_pos h1]; exact .bad _ (show (33 : Int) ≠ 0 by decide)
  rw [if_neg h1]
  by_cases h2 : (plist n (byte k)).length = 0
  · rw [if_pos h2]; exact .bad _ (show (4 : Int) ≠ 0 by decide)
  rw [if_neg h2]
  obtain ⟨k1, k2, k3⟩ := plist_no hk h2
  by_cases hm : (w.may id 9).2 = true
  · rw [if_pos hm]
    obtain ⟨d, P, o, f, e, hf, hlen, hP⟩ := h.may (by decide) hm
    rw [e] at hP ⊢
    have := hf.len
    obtain ⟨d, rfl⟩ : ∃ m, d = m + 1 := ⟨d - 1, by omega⟩
    obtain ⟨m, rfl⟩ := Int.eq_ofNat_of_zero_le k2
    have := CI.lst d P o f [] m k hf (P_of (q := 0) (by unfold tru; omega) hP) (fun x hx => by cases hx) (Nat.zero_le _) (by omega) k1
    simp only [List.flatten_nil, List.append_nil, List.length_nil, Int.natCast_zero, Int.sub_zero] at this
    exact this.mono
  · rw [if_neg hm]; exact .bad _ (may_errF hm)
theorem CI.fin {z : Nat} {w : CS} (h : CI z w) : CI (z + 1) w.fin := by
  cases h with
  | bad _ h => unfold CS.fin; rw [if_pos h]; exact .bad _ h
  | top l h hz => exact .bad _ (show (12 : Int) ≠ 0 by decide)
  | str d P o f l h hP hl =>
    have e : CS.fin ⟨o ++ fdB 0 l, f ++ [⟨false, lastF 0 l, 0, 0⟩], 0⟩ = ⟨o ++ (fdB 0 l ++ [0]), f, 0⟩ := by
      unfold CS.fin
      rw [topL, if_neg (by simp), if_neg (by simp), if_neg (by simp), if_neg (by simp)]
      simp
    rw [e]
    exact h.val (hP _ (.str d l hl.1 hl.2))
  | lst d P o f l n q h hP hl hn hm' hq =>
    by_cases c : (n : Int) - (l.length : Nat) > 0
    · unfold CS.fin
      rw [topL, if_neg (by simp), if_neg (by simp), if_pos c]
      exact .bad _ (show (12 : Int) ≠ 0 by decide)
    obtain rfl : n = l.length := by omega
    have e : CS.fin ⟨o ++ (plist l.length (byte q) ++ l.flatten), f ++ [⟨true, 0, (l.length : Int) - (l.length : Nat), q⟩], 0⟩ = ⟨o ++ (plist l.length (byte q) ++ l.flatten), f, 0⟩ := by
      unfold CS.fin
      rw [topL, if_neg (by simp), if_neg (by simp), if_neg c, if_pos rfl]
      simp
    rw [e]
    exact h.val (hP _ (.lst d q l hq hm' (fun ht x hx => (hl x hx).1 ht) fun ht x hx => (hl x hx).2 ht))
structure COk (o : COp) : Prop where
  n : -9223372036854775808 ≤ o.n ∧ o.n ≤ 9223372036854775807
  w : 0 ≤ o.what ∧ o.what ≤ 255
  b : 0 ≤ o.bits ∧ o.bits ≤ 18446744073709551615
  t : o.text.length < 1000000000
theorem CI.op {z : Nat} {w : CS} (h : CI z w) {o : COp} (ho : COk o) : CI (z + 1) (w.op o) := by
  unfold CS.op
  repeat' split
  · exact h.struct _
  · exact h.list ho.w
  · exact h.fin
  · unfold CS.flag
    split
    · exact h.flagK (.inl rfl)
    · exact h.flagK (.inr rfl)
  · exact h.whole ho.n
  · exact h.put (by decide) (by unfold tru; omega) fun d => .dbl d _ (by have := ho.b; omega)
  · exact h.put (by decide) (by unfold tru; omega) fun d => .txt d _ ho.t
theorem CI.doneT {z : Nat} {w : CS} (h : CI z w) (h0 : w.done.2 = 0) : ∃ l : List (List UInt8), w.done.1 = l.flatten ∧ (∀ x ∈ l, VT 32 12 x) ∧ l.length ≤ z := by
  cases h with
  | bad _ h => unfold CS.done at h0; rw [if_pos h] at h0; exact absurd h0 h
  | top l h hz => exact ⟨l, rfl, h, hz⟩
  | str d P o f l h hP hl =>
    unfold CS.done at h0
    rw [if_neg (by simp), if_pos (by simp)] at h0; cases h0
  | lst d P o f l n q h hP hl hn hm' hq =>
    unfold CS.done at h0
    rw [if_neg (by simp), if_pos (by simp)] at h0; cases h0
end Go.Proofs.YtcgjkjabcdeagaaDoor
