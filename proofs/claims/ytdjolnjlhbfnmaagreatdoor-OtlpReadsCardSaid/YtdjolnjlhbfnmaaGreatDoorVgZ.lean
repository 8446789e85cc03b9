/-
  A part of the proof.
-/
import Derived.Test.YtdjolnjlhbfnmaaGreatDoorVgX
set_option linter.unusedSimpArgs false
set_option linter.unusedVariables false
namespace Go.VG
open Go

structure ae (A : Prop) : Prop where
 h : A

theorem aj {A B : Prop} (h : ae A) (k : B) : A ∧ B := ⟨h.h, k⟩
theorem eG {b : Bool} {A B : Prop} (h1 : b = true → A) (h2 : b = false → B) : c8 b A B := by cases b <;> simp_all [c8]
theorem aw {p : Prop} {d : Decidable p} {A B : Prop} (h1 : p → A) (h2 : ¬ p → B) : c8 (@decide p d) A B := eG (fun h => h1 (by simpa using h)) (fun h => h2 (by simpa using h))
theorem go7 {a b : Int} {A B : Prop} (h1 : a = b → A) (h2 : a ≠ b → B) : c8 (a == b) A B := eG (fun h => h1 (by simpa using h)) (fun h => h2 (by simpa using h))
theorem go8 {a b : Int} {A B : Prop} (h1 : a ≠ b → A) (h2 : a = b → B) : c8 (a != b) A B := eG (fun h => h1 (by simpa using h)) (fun h => h2 (by simpa using h))
theorem fw {a b : List UInt8} {A B : Prop} (h1 : a = b → A) (h2 : a ≠ b → B) : c8 (a == b) A B := eG (fun h => h1 (by simpa using h)) (fun h => h2 (by simpa using h))
theorem aO {b : Bool} {A B : Prop} (h : c8 b B A) : c8 (!b) A B := by cases b <;> exact h
theorem iN {b : Bool} {A : Prop} (h1 : ae (b = true)) (h2 : A) : ic b A := by
 obtain ⟨h⟩ := h1; subst h; exact h2
theorem pI {α : Type} {l : List α} {n : Nat} {K : α → Prop} (h1 : ae (n < l.length)) (h2 : ∀ a, l[n]? = some a → K a) : ez l n K :=
 ⟨l[n]'h1.h, List.getElem?_eq_getElem h1.h, h2 _ (List.getElem?_eq_getElem h1.h)⟩
theorem jL {s : List UInt8} {n : Nat} {K : UInt8 → Prop} (h1 : ae (n < s.length)) (h2 : (s.getD n 0).toNat < 256 → K (s.getD n 0)) : ez s n K :=
 pI h1 fun a ha => by rw [List.getD_eq_getElem?_getD, ha] at h2; exact h2 (UInt8.toNat_lt _)
theorem goD {s : List UInt8} {n : Nat} {K : UInt8 → Prop} (h1 : ae (n < s.length)) (h2 : (s.getD n 0).toNat < 256 → K (s.getD n 0)) : ez s (n : Int).toNat K := jL h1 h2
theorem BT {α γ : Type} {l : List α} {e : α → γ} {n : Nat} {K : γ → Prop} (h1 : ae (n < l.length)) (h2 : ∀ a, l[n]? = some a → K (e a)) : ez (l.map e) n K := by
 refine pI ⟨by simpa using h1.h⟩ fun a ha => ?_
 simp only [List.getElem?_map, Option.map_eq_some_iff] at ha
 obtain ⟨b, hb, rfl⟩ := ha
 exact h2 b hb
theorem Az (s : List UInt8) : bl s = s.map bv := by induction s <;> simp_all [bl]
theorem goC {s : List UInt8} {n : Nat} {K : V → Prop} (h1 : ae (n < s.length)) (h2 : (s.getD n 0).toNat < 256 → K (.int .u8 (s.getD n 0).toNat)) : ez (bl s) n K := by
 rw [Az]; exact BT h1 fun a ha => by rw [List.getD_eq_getElem?_getD, ha] at h2; exact h2 (UInt8.toNat_lt _)
theorem goB {s : List UInt8} {n : Nat} {K : V → Prop} (h1 : ae (n < s.length)) (h2 : (s.getD n 0).toNat < 256 → K (.int .u8 (s.getD n 0).toNat)) : ez (bl s) (n : Int).toNat K := goC h1 h2
theorem kG {α γ : Type} [Inhabited α] {l : List α} {e : α → γ} {n : Nat} {K : γ → Prop} (h1 : ae (n < l.length)) (h2 : K (e (l.getD n default))) : ez (l.map e) n K :=
 BT h1 fun a ha => by rw [List.getD_eq_getElem?_getD, ha] at h2; exact h2
theorem c9 {α γ : Type} [Inhabited α] {l : List α} {e : α → γ} {n : Nat} {K : γ → Prop} (h1 : ae (n < l.length)) (h2 : K (e (l.getD n default))) : ez (l.map e) (n : Int).toNat K := kG h1 h2
theorem dF (s t : List UInt8) : bl (s ++ t) = bl s ++ bl t := by simp [Az]
theorem goI {s : List UInt8} {Q : List UInt8 → Prop} (h : Q s) : ∃ a, bl s = bl a ∧ Q a := ⟨s, rfl, h⟩
def byte (n : Int) : UInt8 := .ofNat n.toNat
theorem kq {n : Int} (h : 0 ≤ n ∧ n ≤ 255) : ((byte n).toNat : Int) = n := by
 simp only [byte, UInt8.toNat_ofNat']; omega
theorem goJ {n : Int} {Q : List UInt8 → Prop} (h1 : ae (0 ≤ n ∧ n ≤ 255)) (h : Q [byte n]) : ∃ a, [V.int .u8 n] = bl a ∧ Q a := ⟨_, by simp [bl, bv, kq h1.h], h⟩
theorem goK {n m : Int} {Q : List UInt8 → Prop} (h1 : ae (0 ≤ n ∧ n ≤ 255)) (h2 : ae (0 ≤ m ∧ m ≤ 255)) (h : Q [byte n, byte m]) : ∃ a, [V.int .u8 n, V.int .u8 m] = bl a ∧ Q a := ⟨_, by simp [bl, bv, kq h1.h, kq h2.h], h⟩
theorem goL {n m k : Int} {Q : List UInt8 → Prop} (h1 : ae (0 ≤ n ∧ n ≤ 255)) (h2 : ae (0 ≤ m ∧ m ≤ 255)) (h3 : ae (0 ≤ k ∧ k ≤ 255)) (h : Q [byte n, byte m, byte k]) : ∃ a, [V.int .u8 n, V.int .u8 m, V.int .u8 k] = bl a ∧ Q a :=
 ⟨_, by simp [bl, bv, kq h1.h, kq h2.h, kq h3.h], h⟩
theorem goM {n m k l : Int} {Q : List UInt8 → Prop} (h1 : ae (0 ≤ n ∧ n ≤ 255)) (h2 : ae (0 ≤ m ∧ m ≤ 255)) (h3 : ae (0 ≤ k ∧ k ≤ 255)) (h4 : ae (0 ≤ l ∧ l ≤ 255)) (h : Q [byte n, byte m, byte k, byte l]) :
   ∃ a, [V.int .u8 n, V.int .u8 m, V.int .u8 k, V.int .u8 l] = bl a ∧ Q a :=
 ⟨_, by simp [bl, bv, kq h1.h, kq h2.h, kq h3.h, kq h4.h], h⟩
theorem wu8 (n : Int) : IntKind.u8.wrap n = n % 256 := rfl
theorem wu16 (n : Int) : IntKind.u16.wrap n = n % 65536 := rfl
theorem qI (n : Int) : IntKind.u32.wrap n = n % 4294967296 := rfl
theorem db (n : Int) : IntKind.u64.wrap n = n % 18446744073709551616 := rfl
theorem bc (n : Int) : IntKind.i64.wrap n = (n + 9223372036854775808) % 18446744073709551616 - 9223372036854775808 := by
 show (if true && decide (n % 18446744073709551616 ≥ 9223372036854775808) then n % 18446744073709551616 - 18446744073709551616 else n % 18446744073709551616) = _
 simp only [Bool.true_and, decide_eq_true_eq]; split <;> omega
theorem vt (n : Int) : IntKind.i32.wrap n = (n + 2147483648) % 4294967296 - 2147483648 := by
 show (if true && decide (n % 4294967296 ≥ 2147483648) then n % 4294967296 - 4294967296 else n % 4294967296) = _
 simp only [Bool.true_and, decide_eq_true_eq]; split <;> omega
theorem wR : (∀ n, IntKind.u8.wrap n = n % 256) ∧ (∀ n, IntKind.u16.wrap n = n % 65536) ∧ (∀ n, IntKind.u32.wrap n = n % 4294967296) ∧ (∀ n, IntKind.u64.wrap n = n % 18446744073709551616) ∧
   (∀ n, IntKind.i32.wrap n = (n + 2147483648) % 4294967296 - 2147483648) ∧ (∀ n, IntKind.i64.wrap n = (n + 9223372036854775808) % 18446744073709551616 - 9223372036854775808) ∧
   (∀ {a b : Int}, 0 ≤ a → a.tdiv b = a / b) ∧ (∀ {a b : Int}, 0 ≤ a → a.tmod b = a % b) :=
 ⟨wu8, wu16, qI, db, vt, bc, fun h => Int.tdiv_eq_ediv_of_nonneg h, fun h => Int.tmod_eq_emod_of_nonneg h⟩
theorem cL : (∀ {α : Type} {a b : List α}, (a ++ b).length = a.length + b.length) ∧ (∀ {α : Type} {x : α} {a : List α}, (x :: a).length = a.length + 1) ∧ (∀ {α : Type}, ([] : List α).length = 0) ∧ (∀ s, (bl s).length = s.length) ∧
   (∀ {α : Type} {i : Nat} {a : List α}, (a.take i).length = min i a.length) ∧ (∀ {α : Type} {i : Nat} {a : List α}, (a.drop i).length = a.length - i) :=
 ⟨List.length_append, List.length_cons, List.length_nil, eY, List.length_take, List.length_drop⟩
theorem pL (k : IntKind) (n b : Nat) : jM k n b = ((n / 2 ^ (min b k.bits) : Nat) : Int) := by
 unfold jM
 rw [show ((b : Int)).toNat = b from rfl, Int.fdiv_eq_ediv_of_nonneg _ (by exact_mod_cast Nat.zero_le _)]
 simp
theorem E7 {x : V} : ∀ {cs : List V} {n : Nat}, n < cs.length → i5 cs n [x] = some (cs.set n x)
 | [], n, h => by simp at h
 | y :: cs, 0, _ => by simp [i5]
 | y :: cs, n + 1, h => by simp only [i5]; rw [E7 (cs := cs) (by simpa using h)]; simp
theorem goN {cs : List V} {n : Nat} {x : V} {K : List V → Prop} (h1 : ae (n < cs.length)) (h2 : K (cs.set n x)) : fk (i5 cs n [x]) K := by rw [E7 h1.h]; exact h2
theorem EM : ∀ {cs : List V} {m : Nat}, m ≤ cs.length → gk cs m = some (cs.take m)
 | cs, 0, _ => by cases cs <;> simp [gk]
 | [], m + 1, h => by simp at h
 | c :: cs, m + 1, h => by simp only [gk]; rw [EM (cs := cs) (by simpa using h)]; simp
theorem goO {cs : List V} {a m : Nat} {K : List V → Prop} (h1 : ae (a + m ≤ cs.length)) (h2 : K ((cs.drop a).take m)) : fk (gk (ik cs a) m) K := by
 rw [qZ, EM (by simp; have := h1.h; omega)]; exact h2
theorem goP {l : List V} {K : List V → Prop} (h : K l) : cK l K := by rw [j9]; exact h
theorem go1 {P : Nat × Int → Prop} {o : Option (Nat × Int)} {Q : Prop} (h : ∀ j q, o = some (j, q) → P (j, q)) (k : o = none → Q) : (∀ a, o = some a → P a) ∧ (o = none → Q) := ⟨fun ⟨j, q⟩ e => h j q e, k⟩
theorem go2 {bs bs' : List Nat} {ck ck' : Nat} {left : List Nat} {A : Prop} {B : Nat → Prop} (h0 : bs' = bs ∧ ck' = ck) (h1 : left = [] → A) (h2 : ∀ j, j ∈ left → B j) :
 (bs' = bs ∧ ck' = ck) ∧ (left = [] → A) ∧ (∀ j, j ∈ left → B j) := ⟨h0, h1, h2⟩
theorem OG (s : List UInt8) (n : Nat) : V.kU n (bl s) = true := by induction s <;> simp_all [bl, bv, V.kU, V.ff]
def Wk (x y : V) : Prop := ∀ (st : St) (g : ay) (n : Nat) (v : Value), VR st g x n v → VR st g y n v
def aE (xs ys : List V) : Prop := ∀ (st : St) (g : ay) (n : Nat) (vs : List Value), aJ st g xs n vs → aJ st g ys n vs
theorem Wk.refl (x : V) : Wk x x := fun _ _ _ _ h => h
theorem aE.nil : aE [] [] := fun _ _ _ _ h => h
theorem aE.cons {x y : V} {xs ys : List V} (h : Wk x y) (hs : aE xs ys) : aE (x :: xs) (y :: ys) := fun st g n vs k => by
 simp only [aJ] at k ⊢
 obtain ⟨u, us, rfl, h1, h2⟩ := k
 exact ⟨u, us, rfl, h _ _ _ _ h1, hs _ _ _ _ h2⟩
theorem aE.refl (xs : List V) : aE xs xs := fun _ _ _ _ h => h
theorem Wk.agg {xs ys : List V} (h : aE xs ys) : Wk (.agg xs) (.agg ys) := fun st g n v k => by
 simp only [VR] at k ⊢
 obtain ⟨vs, rfl, k⟩ := k
 exact ⟨vs, rfl, h _ _ _ _ k⟩
theorem Wk.tuple {xs ys : List V} (h : aE xs ys) : Wk (.tuple xs) (.tuple ys) := fun st g n v k => by
 simp only [VR] at k ⊢
 obtain ⟨vs, rfl, k⟩ := k
 exact ⟨vs, rfl, h _ _ _ _ k⟩
theorem Wk.nil {c d : Bool} {sz sz' : Nat} (h : c = true ∨ d = false) : Wk (.list c sz []) (.list d sz' []) := fun st g n v k => by
 simp only [VR] at k ⊢
 obtain ⟨base, cap, rfl, h1, h2, h3, _⟩ := k
 refine ⟨base, cap, rfl, h1, h2, fun hd => ?_, .inl trivial⟩
 rcases h with h | h
 . exact h3 h
 . rw [h] at hd; cases hd
theorem Wk.list {c d : Bool} {sz : Nat} {l m : List V} (hcd : c = true ∨ d = false) (hl : m.length = l.length) (h : ∀ (i : Nat) x y, l[i]? = some x → m[i]? = some y → Wk x y) : Wk (.list c sz l) (.list d sz m) := fun st g n v k => by
 simp only [VR] at k ⊢
 obtain ⟨base, cap, rfl, h1, h2, h3, h4⟩ := k
 refine ⟨base, cap, by rw [hl], by omega, by omega, fun hd => ?_, ?_⟩
 . rcases hcd with hc | hc
   . rw [hl]; exact h3 hc
   . rw [hc] at hd; cases hd
 . rcases h4 with h4 | ⟨b, o, h5, h6, h7⟩
   . left; subst h4; exact List.eq_nil_of_length_eq_zero (by simpa using hl)
   . right
     refine ⟨b, o, h5, h6, ?_⟩
     rw [eW] at h7 ⊢
     intro i y hy
     have hi : i < l.length := by
      rcases Nat.lt_or_ge i m.length with h' | h'
      . omega
      . simp [List.getElem?_eq_none h'] at hy
     obtain ⟨u, q1, q2⟩ := h7 i l[i] (List.getElem?_eq_getElem hi)
     exact ⟨u, h i _ _ (List.getElem?_eq_getElem hi) hy _ _ _ _ q1, q2⟩

theorem ey.args {P : Program} {gl : Nat → Option (List V)} {f : FuncId} {xs ys : List V} {σ : List O} {x : V} {r : Option (List O)} (h : ey P gl f ys σ x r) (k : aE xs ys) : ey P gl f xs σ x r :=
 ⟨h.1, fun E st g w vs W hg hv => h.2 E st g w vs W hg (k _ _ _ _ hv)⟩
theorem ey.res {P : Program} {gl : Nat → Option (List V)} {f : FuncId} {xs : List V} {σ : List O} {x y : V} {r : Option (List O)} (h : ey P gl f xs σ x r) (k : Wk x y) : ey P gl f xs σ y r :=
 ⟨h.1, fun E st g w vs W hg hv => (h.2 E st g w vs W hg hv).mono fun _ _ ⟨v, st', g', h1, h2, h3, h4⟩ => ⟨v, st', g', h1, h2, k _ _ _ _ h3, h4⟩⟩

def Sm : Type := List V → List O → Option (Prop × V × Option (List O))
def sV (P : Program) (gl : Nat → Option (List V)) (f : FuncId) (s : Sm) : Prop := ∀ args sg pre x r, s args sg = some (pre, x, r) → pre → ey P gl f args sg x r
def sm0 : Sm := fun _ _ => none
theorem Ep {P : Program} {gl : Nat → Option (List V)} {f : FuncId} : sV P gl f sm0 := fun _ _ _ _ _ h => by cases h
theorem dn {a b : List UInt8} (h : a = b) : V.str a = V.str b := by rw [h]
theorem aH {k : IntKind} {a b : Int} (h : a = b) : V.int k a = V.int k b := by rw [h]
theorem cR {a b : Bool} (h : a = b) : V.bool a = V.bool b := by rw [h]
theorem bo {n m : Nat} {a b : List V} (h : a = b) : O.buf n m a = O.buf n m b := by rw [h]
theorem cS {a b : List V} (h : a = b) : O.cells a = O.cells b := by rw [h]
theorem cU {c : Bool} {n : Nat} {a b : List V} (h : a = b) : V.list c n a = V.list c n b := by rw [h]
theorem cZ {a b : List V} (h : a = b) : V.agg a = V.agg b := by rw [h]
theorem cJ {a b : List V} (h : a = b) : V.tuple a = V.tuple b := by rw [h]
theorem bE {α : Type} {x y : α} {xs ys : List α} (h : x = y) (k : xs = ys) : x :: xs = y :: ys := by rw [h, k]
theorem eN (s : List UInt8) (n : Nat) : V.kU n (bl s) = true := OG s n
theorem goQ {p c A B : Prop} (h : ae p) (h1 : c → A) (h2 : ¬ c → B) : ((p ∧ c) ∨ (p ∧ ¬ c)) ∧ ((p ∧ c) → A) ∧ ((p ∧ ¬ c) → B) := by
 refine ⟨?_, fun q => h1 q.2, fun q => h2 q.2⟩
 by_cases hc : c
 . exact .inl ⟨h.h, hc⟩
 . exact .inr ⟨h.h, hc⟩
class nG (p : Prop) : Prop where
 y : True
instance {a b c d} : nG (aT a b c d) := ⟨trivial⟩
instance {a b c d e} : nG (nD a b c d e) := ⟨trivial⟩
instance {a b c d e f} : nG (af a b c d e f) := ⟨trivial⟩
instance {a b c} : nG (PanP a b c) := ⟨trivial⟩
instance : nG False := ⟨trivial⟩
instance {α} {p : α → Prop} : nG (∃ x, p x) := ⟨trivial⟩
theorem stay {p : Prop} [nG p] (h : p) : p := h
theorem ax {a b : Prop} (h : a) (k : b) : a ∧ b := ⟨h, k⟩
end Go.VG
namespace Go.VG
open Go
section
variable {H : Type} {ti : TypeId → TI} {f : Nat} {t : TypeId} {d : DataW H} {xs : List V}
theorem FK (hk : (ti t).k = .string) (h : cj ti f t d = some xs) : ∃ s, xs = [.str s] ∧ d = .lit (.string s) := by
 cases f with
 | zero => simp [cj] at h
 | succ f =>
   unfold cj at h
   rw [hk] at h
   split at h <;> simp_all
theorem Fg {t : TypeId} {ts : List TypeId} {ds : List (DataW H)} {xs : List V} (h : ki ti (t :: ts) ds xs) : ∃ d x ds' xs', ds = d :: ds' ∧ xs = x :: xs' ∧ IsD ti t d x ∧ ki ti ts ds' xs' := by
 match ds, xs, h with
 | d :: ds, x :: xs, h => exact ⟨d, x, ds, xs, rfl, rfl, h.1, h.2⟩
 | [], [], h => exact h.elim
 | [], _ :: _, h => exact h.elim
 | _ :: _, [], h => exact h.elim
theorem Fh {ds : List (DataW H)} {xs : List V} (h : ki ti [] ds xs) : ds = [] ∧ xs = [] := by
 match ds, xs, h with
 | [], [], _ => exact ⟨rfl, rfl⟩
 | [], _ :: _, h => exact h.elim
 | _ :: _, [], h => exact h.elim
 | _ :: _, _ :: _, h => exact h.elim
theorem KX (hk : (ti t).k = .string) {x : V} (h : IsD ti t d x) : ∃ s, x = .str s ∧ d = .lit (.string s) := by
 obtain ⟨f, h⟩ := h
 simp only [Option.bind_eq_some_iff] at h
 obtain ⟨cs, h1, h2⟩ := h
 obtain ⟨s, rfl, rfl⟩ := FK hk h1
 rw [hk] at h2
 have h2 : some (V.str s) = some x := h2
 cases h2
 exact ⟨s, rfl, rfl⟩
end
end Go.VG
