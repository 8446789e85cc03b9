/-
  A part of the proof.
-/
import Derived.Test.YtllncocibkgjkaaGreatVgX
set_option linter.unusedSimpArgs false
set_option linter.unusedVariables false
namespace Go.VG
open Go

structure a9 (A : Prop) : Prop where
 h : A

theorem ak {A B : Prop} (h : a9 A) (k : B) : A ∧ B := ⟨h.h, k⟩
theorem jN {b : Bool} {A B : Prop} (h1 : b = true → A) (h2 : b = false → B) : bG b A B := by cases b <;> simp_all [bG]
theorem al {p : Prop} {d : Decidable p} {A B : Prop} (h1 : p → A) (h2 : ¬ p → B) : bG (@decide p d) A B := jN (fun h => h1 (by simpa using h)) (fun h => h2 (by simpa using h))
theorem go7 {a b : Int} {A B : Prop} (h1 : a = b → A) (h2 : a ≠ b → B) : bG (a == b) A B := jN (fun h => h1 (by simpa using h)) (fun h => h2 (by simpa using h))
theorem go8 {a b : Int} {A B : Prop} (h1 : a ≠ b → A) (h2 : a = b → B) : bG (a != b) A B := jN (fun h => h1 (by simpa using h)) (fun h => h2 (by simpa using h))
theorem ga {a b : List UInt8} {A B : Prop} (h1 : a = b → A) (h2 : a ≠ b → B) : bG (a == b) A B := jN (fun h => h1 (by simpa using h)) (fun h => h2 (by simpa using h))
theorem aW {b : Bool} {A B : Prop} (h : bG b B A) : bG (!b) A B := by cases b <;> exact h
theorem jk {b : Bool} {A : Prop} (h1 : a9 (b = true)) (h2 : A) : gT b A := by
 obtain ⟨h⟩ := h1; subst h; exact h2
theorem mR {α : Type} {l : List α} {n : Nat} {K : α → Prop} (h1 : a9 (n < l.length)) (h2 : ∀ a, l[n]? = some a → K a) : jy l n K :=
 ⟨l[n]'h1.h, List.getElem?_eq_getElem h1.h, h2 _ (List.getElem?_eq_getElem h1.h)⟩
theorem eH {s : List UInt8} {n : Nat} {K : UInt8 → Prop} (h1 : a9 (n < s.length)) (h2 : (s.getD n 0).toNat < 256 → K (s.getD n 0)) : jy s n K :=
 mR h1 fun a ha => by rw [List.getD_eq_getElem?_getD, ha] at h2; exact h2 (UInt8.toNat_lt _)
theorem c8 {s : List UInt8} {n : Nat} {K : UInt8 → Prop} (h1 : a9 (n < s.length)) (h2 : (s.getD n 0).toNat < 256 → K (s.getD n 0)) : jy s (n : Int).toNat K := eH h1 h2
theorem Aq {α γ : Type} {l : List α} {e : α → γ} {n : Nat} {K : γ → Prop} (h1 : a9 (n < l.length)) (h2 : ∀ a, l[n]? = some a → K (e a)) : jy (l.map e) n K := by
 refine mR ⟨by simpa using h1.h⟩ fun a ha => ?_
 simp only [List.getElem?_map, Option.map_eq_some_iff] at ha
 obtain ⟨b, hb, rfl⟩ := ha
 exact h2 b hb
theorem yN (s : List UInt8) : bl s = s.map bv := by induction s <;> simp_all [bl]
theorem goC {s : List UInt8} {n : Nat} {K : V → Prop} (h1 : a9 (n < s.length)) (h2 : (s.getD n 0).toNat < 256 → K (.int .u8 (s.getD n 0).toNat)) : jy (bl s) n K := by
 rw [yN]; exact Aq h1 fun a ha => by rw [List.getD_eq_getElem?_getD, ha] at h2; exact h2 (UInt8.toNat_lt _)
theorem goB {s : List UInt8} {n : Nat} {K : V → Prop} (h1 : a9 (n < s.length)) (h2 : (s.getD n 0).toNat < 256 → K (.int .u8 (s.getD n 0).toNat)) : jy (bl s) (n : Int).toNat K := goC h1 h2
theorem gF {α γ : Type} [Inhabited α] {l : List α} {e : α → γ} {n : Nat} {K : γ → Prop} (h1 : a9 (n < l.length)) (h2 : K (e (l.getD n default))) : jy (l.map e) n K :=
 Aq h1 fun a ha => by rw [List.getD_eq_getElem?_getD, ha] at h2; exact h2
theorem lR {α γ : Type} [Inhabited α] {l : List α} {e : α → γ} {n : Nat} {K : γ → Prop} (h1 : a9 (n < l.length)) (h2 : K (e (l.getD n default))) : jy (l.map e) (n : Int).toNat K := gF h1 h2
theorem jC (s t : List UInt8) : bl (s ++ t) = bl s ++ bl t := by simp [yN]
theorem og {s : List UInt8} {Q : List UInt8 → Prop} (h : Q s) : ∃ a, bl s = bl a ∧ Q a := ⟨s, rfl, h⟩
def byte (n : Int) : UInt8 := .ofNat n.toNat
theorem db {n : Int} (h : 0 ≤ n ∧ n ≤ 255) : ((byte n).toNat : Int) = n := by
 simp only [byte, UInt8.toNat_ofNat']; omega
theorem cg (b : UInt8) : byte b.toNat = b := by
 have := db (n := b.toNat) (by have := b.toNat_lt; omega)
 exact UInt8.toNat_inj.1 (by omega)
theorem goJ {n : Int} {Q : List UInt8 → Prop} (h1 : a9 (0 ≤ n ∧ n ≤ 255)) (h : Q [byte n]) : ∃ a, [V.int .u8 n] = bl a ∧ Q a := ⟨_, by simp [bl, bv, db h1.h], h⟩
theorem goK {n m : Int} {Q : List UInt8 → Prop} (h1 : a9 (0 ≤ n ∧ n ≤ 255)) (h2 : a9 (0 ≤ m ∧ m ≤ 255)) (h : Q [byte n, byte m]) : ∃ a, [V.int .u8 n, V.int .u8 m] = bl a ∧ Q a := ⟨_, by simp [bl, bv, db h1.h, db h2.h], h⟩
theorem goL {n m k : Int} {Q : List UInt8 → Prop} (h1 : a9 (0 ≤ n ∧ n ≤ 255)) (h2 : a9 (0 ≤ m ∧ m ≤ 255)) (h3 : a9 (0 ≤ k ∧ k ≤ 255)) (h : Q [byte n, byte m, byte k]) : ∃ a, [V.int .u8 n, V.int .u8 m, V.int .u8 k] = bl a ∧ Q a :=
 ⟨_, by simp [bl, bv, db h1.h, db h2.h, db h3.h], h⟩
theorem goM {n m k l : Int} {Q : List UInt8 → Prop} (h1 : a9 (0 ≤ n ∧ n ≤ 255)) (h2 : a9 (0 ≤ m ∧ m ≤ 255)) (h3 : a9 (0 ≤ k ∧ k ≤ 255)) (h4 : a9 (0 ≤ l ∧ l ≤ 255)) (h : Q [byte n, byte m, byte k, byte l]) :
   ∃ a, [V.int .u8 n, V.int .u8 m, V.int .u8 k, V.int .u8 l] = bl a ∧ Q a :=
 ⟨_, by simp [bl, bv, db h1.h, db h2.h, db h3.h, db h4.h], h⟩
theorem kW (n : Int) : IntKind.u8.wrap n = n % 256 := rfl
theorem wu16 (n : Int) : IntKind.u16.wrap n = n % 65536 := rfl
theorem wu32 (n : Int) : IntKind.u32.wrap n = n % 4294967296 := rfl
theorem yk (n : Int) : IntKind.u64.wrap n = n % 18446744073709551616 := rfl
theorem c5 (n : Int) : IntKind.i64.wrap n = (n + 9223372036854775808) % 18446744073709551616 - 9223372036854775808 := by
 show (if true && decide (n % 18446744073709551616 ≥ 9223372036854775808) then n % 18446744073709551616 - 18446744073709551616 else n % 18446744073709551616) = _
 simp only [Bool.true_and, decide_eq_true_eq]; split <;> omega
theorem kh (n : Int) : IntKind.i32.wrap n = (n + 2147483648) % 4294967296 - 2147483648 := by
 show (if true && decide (n % 4294967296 ≥ 2147483648) then n % 4294967296 - 4294967296 else n % 4294967296) = _
 simp only [Bool.true_and, decide_eq_true_eq]; split <;> omega
theorem wR : (∀ n, IntKind.u8.wrap n = n % 256) ∧ (∀ n, IntKind.u16.wrap n = n % 65536) ∧ (∀ n, IntKind.u32.wrap n = n % 4294967296) ∧ (∀ n, IntKind.u64.wrap n = n % 18446744073709551616) ∧
   (∀ n, IntKind.i32.wrap n = (n + 2147483648) % 4294967296 - 2147483648) ∧ (∀ n, IntKind.i64.wrap n = (n + 9223372036854775808) % 18446744073709551616 - 9223372036854775808) ∧
   (∀ {a b : Int}, 0 ≤ a → a.tdiv b = a / b) ∧ (∀ {a b : Int}, 0 ≤ a → a.tmod b = a % b) :=
 ⟨kW, wu16, wu32, yk, kh, c5, fun h => Int.tdiv_eq_ediv_of_nonneg h, fun h => Int.tmod_eq_emod_of_nonneg h⟩
theorem ig : (∀ {α : Type} {a b : List α}, (a ++ b).length = a.length + b.length) ∧ (∀ {α : Type} {x : α} {a : List α}, (x :: a).length = a.length + 1) ∧ (∀ {α : Type}, ([] : List α).length = 0) ∧ (∀ s, (bl s).length = s.length) ∧
   (∀ {α : Type} {i : Nat} {a : List α}, (a.take i).length = min i a.length) ∧ (∀ {α : Type} {i : Nat} {a : List α}, (a.drop i).length = a.length - i) :=
 ⟨List.length_append, List.length_cons, List.length_nil, iA, List.length_take, List.length_drop⟩
theorem cut1 {α : Type} {l : List α} {n : Nat} (d : α) (h : n < l.length) : (l.take (n + 1)).drop n = [l.getD n d] := by
 rw [List.drop_take, show n + 1 - n = 1 by omega]
 rw [List.getD_eq_getElem?_getD, List.getElem?_eq_getElem h]
 rw [List.drop_eq_getElem_cons h]; rfl
theorem p9 {s : List UInt8} {i : Nat} (h : i < s.length) : s.take (i + 1) = s.take i ++ [s.getD i 0] := by
 rw [List.take_add_one, List.getD_eq_getElem?_getD, List.getElem?_eq_getElem h]; rfl
theorem pI {α : Type} {x y : α} {xs ys : List α} (h : x = y) (k : xs = ys) : x :: xs = y :: ys := by rw [h, k]
theorem v7 (k : IntKind) (n b : Nat) : jP k n b = ((n / 2 ^ (min b k.bits) : Nat) : Int) := by
 unfold jP
 rw [show ((b : Int)).toNat = b from rfl, Int.fdiv_eq_ediv_of_nonneg _ (by exact_mod_cast Nat.zero_le _)]
 simp
theorem Ck {x : V} : ∀ {cs : List V} {n : Nat}, n < cs.length → gO cs n [x] = some (cs.set n x)
 | [], n, h => by simp at h
 | y :: cs, 0, _ => by simp [gO]
 | y :: cs, n + 1, h => by simp only [gO]; rw [Ck (cs := cs) (by simpa using h)]; simp
theorem goN {cs : List V} {n : Nat} {x : V} {K : List V → Prop} (h1 : a9 (n < cs.length)) (h2 : K (cs.set n x)) : eN (gO cs n [x]) K := by rw [Ck h1.h]; exact h2
theorem CQ : ∀ {cs : List V} {m : Nat}, m ≤ cs.length → gn cs m = some (cs.take m)
 | cs, 0, _ => by cases cs <;> simp [gn]
 | [], m + 1, h => by simp at h
 | c :: cs, m + 1, h => by simp only [gn]; rw [CQ (cs := cs) (by simpa using h)]; simp
theorem goO {cs : List V} {a m : Nat} {K : List V → Prop} (h1 : a9 (a + m ≤ cs.length)) (h2 : K ((cs.drop a).take m)) : eN (gn (iB cs a) m) K := by
 rw [rI, CQ (by simp; have := h1.h; omega)]; exact h2
theorem goP {l : List V} {K : List V → Prop} (h : K l) : cq l K := by rw [iT]; exact h
theorem go1 {P : Nat × Int → Prop} {o : Option (Nat × Int)} {Q : Prop} (h : ∀ j q, o = some (j, q) → P (j, q)) (k : o = none → Q) : (∀ a, o = some a → P a) ∧ (o = none → Q) := ⟨fun ⟨j, q⟩ e => h j q e, k⟩
theorem go2 {bs bs' : List Nat} {ck ck' : Nat} {left : List Nat} {A : Prop} {B : Nat → Prop} (h0 : bs' = bs ∧ ck' = ck) (h1 : left = [] → A) (h2 : ∀ j, j ∈ left → B j) :
 (bs' = bs ∧ ck' = ck) ∧ (left = [] → A) ∧ (∀ j, j ∈ left → B j) := ⟨h0, h1, h2⟩
theorem Lx (s : List UInt8) (n : Nat) : V.ka n (bl s) = true := by induction s <;> simp_all [bl, bv, V.ka, V.eJ]
def Sm : Type := List V → List O → Option (Prop × V × Option (List O))
def rf (P : Program) (gl : Nat → Option (List V)) (f : FuncId) (s : Sm) : Prop := ∀ args sg pre x r, s args sg = some (pre, x, r) → pre → jd P gl f args sg x r
def sm0 : Sm := fun _ _ => none
theorem LK {P : Program} {gl : Nat → Option (List V)} {f : FuncId} : rf P gl f sm0 := fun _ _ _ _ _ h => by cases h
theorem cC {a b : List UInt8} (h : a = b) : V.str a = V.str b := by rw [h]
theorem aI {k : IntKind} {a b : Int} (h : a = b) : V.int k a = V.int k b := by rw [h]
theorem jF {a b : Bool} (h : a = b) : V.bool a = V.bool b := by rw [h]
theorem br {n m : Nat} {a b : List V} (h : a = b) : O.buf n m a = O.buf n m b := by rw [h]
theorem gC {a b : List V} (h : a = b) : O.cells a = O.cells b := by rw [h]
theorem eqF {c : Bool} {n : Nat} {a b : List V} (h : a = b) : V.list c n a = V.list c n b := by rw [h]
theorem fZ {a b : List V} (h : a = b) : V.agg a = V.agg b := by rw [h]
theorem hP {a b : List V} (h : a = b) : V.tuple a = V.tuple b := by rw [h]
theorem bU {α : Type} {x y : α} {xs ys : List α} (h : x = y) (k : xs = ys) : x :: xs = y :: ys := by rw [h, k]
theorem eqS (s : List UInt8) (n : Nat) : V.ka n (bl s) = true := Lx s n
abbrev eF : Type := List V → List O → Option (Prop × Prop × V × Option (List O) × V × Option (List O))
def ra (P : Program) (gl : Nat → Option (List V)) (f : FuncId) (s : eF) : Prop := ∀ args sg pre c u r x r2, s args sg = some (pre, c, u, r, x, r2) → pre →
 (c → ∃ v, j4 u = some v ∧ nq P gl f args sg v r) ∧ (¬ c → jd P gl f args sg x r2)
def psm0 : eF := fun _ _ => none
theorem Kj {P : Program} {gl : Nat → Option (List V)} {f : FuncId} : ra P gl f psm0 := fun _ _ _ _ _ _ _ _ h => by cases h
theorem gb {p c A B : Prop} (h : a9 p) (h1 : c → A) (h2 : ¬ c → B) : ((p ∧ c) ∨ (p ∧ ¬ c)) ∧ ((p ∧ c) → A) ∧ ((p ∧ ¬ c) → B) := by
 refine ⟨?_, fun q => h1 q.2, fun q => h2 q.2⟩
 by_cases hc : c
 . exact .inl ⟨h.h, hc⟩
 . exact .inr ⟨h.h, hc⟩
class mr (p : Prop) : Prop where
 y : True
instance {a b c d} : mr (aU a b c d) := ⟨trivial⟩
instance {a b c d e} : mr (mm a b c d e) := ⟨trivial⟩
instance {a b c d e f} : mr (a8 a b c d e f) := ⟨trivial⟩
instance {a b c} : mr (cN a b c) := ⟨trivial⟩
instance : mr False := ⟨trivial⟩
instance {α} {p : α → Prop} : mr (∃ x, p x) := ⟨trivial⟩
theorem stay {p : Prop} [mr p] (h : p) : p := h
theorem ae {a b : Prop} (h : a) (k : b) : a ∧ b := ⟨h, k⟩
end Go.VG
namespace Go.VG
open Go
section
variable {H : Type} {ti : TypeId → TI} {f : Nat} {t : TypeId} {d : DataW H} {xs : List V}
theorem DW {k : IntKind} (hk : (ti t).k = .int k) (h : bC ti f t d = some xs) : ∃ n, xs = [.int k n] := by
 cases f with
 | zero => simp [bC] at h
 | succ f =>
   unfold bC at h
   rw [hk] at h
   split at h <;> simp_all
   exact ⟨_, h.symm⟩
theorem DX (hk : (ti t).k = .string) (h : bC ti f t d = some xs) : ∃ s, xs = [.str s] ∧ d = .lit (.string s) := by
 cases f with
 | zero => simp [bC] at h
 | succ f =>
   unfold bC at h
   rw [hk] at h
   split at h <;> simp_all
theorem ki {t : TypeId} {ts : List TypeId} {ds : List (DataW H)} {xs : List V} (h : iK ti (t :: ts) ds xs) : ∃ d x ds' xs', ds = d :: ds' ∧ xs = x :: xs' ∧ IsD ti t d x ∧ iK ti ts ds' xs' := by
 match ds, xs, h with
 | d :: ds, x :: xs, h => exact ⟨d, x, ds, xs, rfl, rfl, h.1, h.2⟩
 | [], [], h => exact h.elim
 | [], _ :: _, h => exact h.elim
 | _ :: _, [], h => exact h.elim
theorem tO {ds : List (DataW H)} {xs : List V} (h : iK ti [] ds xs) : ds = [] ∧ xs = [] := by
 match ds, xs, h with
 | [], [], _ => exact ⟨rfl, rfl⟩
 | [], _ :: _, h => exact h.elim
 | _ :: _, [], h => exact h.elim
 | _ :: _, _ :: _, h => exact h.elim
theorem ow (hk : (ti t).k = .string) {x : V} (h : IsD ti t d x) : ∃ s, x = .str s ∧ d = .lit (.string s) := by
 obtain ⟨f, h⟩ := h
 simp only [Option.bind_eq_some_iff] at h
 obtain ⟨cs, h1, h2⟩ := h
 obtain ⟨s, rfl, rfl⟩ := DX hk h1
 rw [hk] at h2
 have h2 : some (V.str s) = some x := h2
 cases h2
 exact ⟨s, rfl, rfl⟩
end
end Go.VG
