/-
  A part of the proof.
-/
import Derived.Test.YtllncocibkgjkaaGreatVgX
set_option linter.unusedSimpArgs false
set_option linter.unusedVariables false
namespace Go.VG
open Go

structure ab (A : Prop) : Prop where
 h : A

theorem ak {A B : Prop} (h : ab A) (k : B) : A ∧ B := ⟨h.h, k⟩
theorem j0 {b : Bool} {A B : Prop} (h1 : b = true → A) (h2 : b = false → B) : bI b A B := by cases b <;> simp_all [bI]
theorem al {p : Prop} {d : Decidable p} {A B : Prop} (h1 : p → A) (h2 : ¬ p → B) : bI (@decide p d) A B := j0 (fun h => h1 (by simpa using h)) (fun h => h2 (by simpa using h))
theorem go9 {a b : List UInt8} {A B : Prop} (h1 : a = b → A) (h2 : a ≠ b → B) : bI (a == b) A B := j0 (fun h => h1 (by simpa using h)) (fun h => h2 (by simpa using h))
theorem aV {b : Bool} {A B : Prop} (h : bI b B A) : bI (!b) A B := by cases b <;> exact h
theorem jv {b : Bool} {A : Prop} (h1 : ab (b = true)) (h2 : A) : gT b A := by
 obtain ⟨h⟩ := h1; subst h; exact h2
theorem nS {α : Type} {l : List α} {n : Nat} {K : α → Prop} (h1 : ab (n < l.length)) (h2 : ∀ a, l[n]? = some a → K a) : jj l n K :=
 ⟨l[n]'h1.h, List.getElem?_eq_getElem h1.h, h2 _ (List.getElem?_eq_getElem h1.h)⟩
theorem mG {s : List UInt8} {n : Nat} {K : UInt8 → Prop} (h1 : ab (n < s.length)) (h2 : (s.getD n 0).toNat < 256 → K (s.getD n 0)) : jj s n K :=
 nS h1 fun a ha => by rw [List.getD_eq_getElem?_getD, ha] at h2; exact h2 (UInt8.toNat_lt _)
theorem et {s : List UInt8} {n : Nat} {K : UInt8 → Prop} (h1 : ab (n < s.length)) (h2 : (s.getD n 0).toNat < 256 → K (s.getD n 0)) : jj s (n : Int).toNat K := mG h1 h2
theorem zR {α γ : Type} {l : List α} {e : α → γ} {n : Nat} {K : γ → Prop} (h1 : ab (n < l.length)) (h2 : ∀ a, l[n]? = some a → K (e a)) : jj (l.map e) n K := by
 refine nS ⟨by simpa using h1.h⟩ fun a ha => ?_
 simp only [List.getElem?_map, Option.map_eq_some_iff] at ha
 obtain ⟨b, hb, rfl⟩ := ha
 exact h2 b hb
theorem pd (s : List UInt8) : bl s = s.map bv := by induction s <;> simp_all [bl]
theorem goC {s : List UInt8} {n : Nat} {K : V → Prop} (h1 : ab (n < s.length)) (h2 : (s.getD n 0).toNat < 256 → K (.int .u8 (s.getD n 0).toNat)) : jj (bl s) n K := by
 rw [pd]; exact zR h1 fun a ha => by rw [List.getD_eq_getElem?_getD, ha] at h2; exact h2 (UInt8.toNat_lt _)
theorem goB {s : List UInt8} {n : Nat} {K : V → Prop} (h1 : ab (n < s.length)) (h2 : (s.getD n 0).toNat < 256 → K (.int .u8 (s.getD n 0).toNat)) : jj (bl s) (n : Int).toNat K := goC h1 h2
theorem goG {α γ : Type} [Inhabited α] {l : List α} {e : α → γ} {n : Nat} {K : γ → Prop} (h1 : ab (n < l.length)) (h2 : K (e (l.getD n default))) : jj (l.map e) n K :=
 zR h1 fun a ha => by rw [List.getD_eq_getElem?_getD, ha] at h2; exact h2
theorem jw {α γ : Type} [Inhabited α] {l : List α} {e : α → γ} {n : Nat} {K : γ → Prop} (h1 : ab (n < l.length)) (h2 : K (e (l.getD n default))) : jj (l.map e) (n : Int).toNat K := goG h1 h2
theorem cz (s t : List UInt8) : bl (s ++ t) = bl s ++ bl t := by simp [pd]
theorem Dh (s : List UInt8) (n : Nat) : (bl s).drop n = bl (s.drop n) := by simp [pd]
theorem mH {s : List UInt8} {Q : List UInt8 → Prop} (h : Q s) : ∃ a, bl s = bl a ∧ Q a := ⟨s, rfl, h⟩
def byte (n : Int) : UInt8 := .ofNat n.toNat
theorem d8 {n : Int} (h : 0 ≤ n ∧ n ≤ 255) : ((byte n).toNat : Int) = n := by
 simp only [byte, UInt8.toNat_ofNat']; omega
theorem c5 (b : UInt8) : byte b.toNat = b := by
 have := d8 (n := b.toNat) (by have := b.toNat_lt; omega)
 exact UInt8.toNat_inj.1 (by omega)
theorem nT {n : Int} {Q : List UInt8 → Prop} (h1 : ab (0 ≤ n ∧ n ≤ 255)) (h : Q [byte n]) : ∃ a, [V.int .u8 n] = bl a ∧ Q a := ⟨_, by simp [bl, bv, d8 h1.h], h⟩
theorem goK {n m : Int} {Q : List UInt8 → Prop} (h1 : ab (0 ≤ n ∧ n ≤ 255)) (h2 : ab (0 ≤ m ∧ m ≤ 255)) (h : Q [byte n, byte m]) : ∃ a, [V.int .u8 n, V.int .u8 m] = bl a ∧ Q a := ⟨_, by simp [bl, bv, d8 h1.h, d8 h2.h], h⟩
theorem goL {n m k : Int} {Q : List UInt8 → Prop} (h1 : ab (0 ≤ n ∧ n ≤ 255)) (h2 : ab (0 ≤ m ∧ m ≤ 255)) (h3 : ab (0 ≤ k ∧ k ≤ 255)) (h : Q [byte n, byte m, byte k]) : ∃ a, [V.int .u8 n, V.int .u8 m, V.int .u8 k] = bl a ∧ Q a :=
 ⟨_, by simp [bl, bv, d8 h1.h, d8 h2.h, d8 h3.h], h⟩
theorem goM {n m k l : Int} {Q : List UInt8 → Prop} (h1 : ab (0 ≤ n ∧ n ≤ 255)) (h2 : ab (0 ≤ m ∧ m ≤ 255)) (h3 : ab (0 ≤ k ∧ k ≤ 255)) (h4 : ab (0 ≤ l ∧ l ≤ 255)) (h : Q [byte n, byte m, byte k, byte l]) :
   ∃ a, [V.int .u8 n, V.int .u8 m, V.int .u8 k, V.int .u8 l] = bl a ∧ Q a :=
 ⟨_, by simp [bl, bv, d8 h1.h, d8 h2.h, d8 h3.h, d8 h4.h], h⟩
theorem ko (n : Int) : IntKind.u8.wrap n = n % 256 := rfl
theorem wu16 (n : Int) : IntKind.u16.wrap n = n % 65536 := rfl
theorem wu32 (n : Int) : IntKind.u32.wrap n = n % 4294967296 := rfl
theorem wu64 (n : Int) : IntKind.u64.wrap n = n % 18446744073709551616 := rfl
theorem gU (n : Int) : IntKind.i64.wrap n = (n + 9223372036854775808) % 18446744073709551616 - 9223372036854775808 := by
 show (if true && decide (n % 18446744073709551616 ≥ 9223372036854775808) then n % 18446744073709551616 - 18446744073709551616 else n % 18446744073709551616) = _
 simp only [Bool.true_and, decide_eq_true_eq]; split <;> omega
theorem kn (n : Int) : IntKind.i32.wrap n = (n + 2147483648) % 4294967296 - 2147483648 := by
 show (if true && decide (n % 4294967296 ≥ 2147483648) then n % 4294967296 - 4294967296 else n % 4294967296) = _
 simp only [Bool.true_and, decide_eq_true_eq]; split <;> omega
theorem wR : (∀ n, IntKind.u8.wrap n = n % 256) ∧ (∀ n, IntKind.u16.wrap n = n % 65536) ∧ (∀ n, IntKind.u32.wrap n = n % 4294967296) ∧ (∀ n, IntKind.u64.wrap n = n % 18446744073709551616) ∧
   (∀ n, IntKind.i32.wrap n = (n + 2147483648) % 4294967296 - 2147483648) ∧ (∀ n, IntKind.i64.wrap n = (n + 9223372036854775808) % 18446744073709551616 - 9223372036854775808) ∧
   (∀ {a b : Int}, 0 ≤ a → a.tdiv b = a / b) ∧ (∀ {a b : Int}, 0 ≤ a → a.tmod b = a % b) :=
 ⟨ko, wu16, wu32, wu64, kn, gU, fun h => Int.tdiv_eq_ediv_of_nonneg h, fun h => Int.tmod_eq_emod_of_nonneg h⟩
theorem cK : (∀ {α : Type} {a b : List α}, (a ++ b).length = a.length + b.length) ∧ (∀ {α : Type} {x : α} {a : List α}, (x :: a).length = a.length + 1) ∧ (∀ {α : Type}, ([] : List α).length = 0) ∧ (∀ s, (bl s).length = s.length) ∧
   (∀ {α : Type} {i : Nat} {a : List α}, (a.take i).length = min i a.length) ∧ (∀ {α : Type} {i : Nat} {a : List α}, (a.drop i).length = a.length - i) :=
 ⟨List.length_append, List.length_cons, List.length_nil, fv, List.length_take, List.length_drop⟩
theorem rb {α : Type} {l : List α} {n : Nat} (d : α) (h : n < l.length) : (l.take (n + 1)).drop n = [l.getD n d] := by
 rw [List.drop_take, show n + 1 - n = 1 by omega]
 rw [List.getD_eq_getElem?_getD, List.getElem?_eq_getElem h]
 rw [List.drop_eq_getElem_cons h]; rfl
theorem tv {s : List UInt8} {i : Nat} (h : i < s.length) : s.take (i + 1) = s.take i ++ [s.getD i 0] := by
 rw [List.take_add_one, List.getD_eq_getElem?_getD, List.getElem?_eq_getElem h]; rfl
theorem po {α : Type} {x y : α} {xs ys : List α} (h : x = y) (k : xs = ys) : x :: xs = y :: ys := by rw [h, k]
theorem rE (k : IntKind) (n b : Nat) : jy k n b = ((n / 2 ^ (min b k.bits) : Nat) : Int) := by
 unfold jy
 rw [show ((b : Int)).toNat = b from rfl, Int.fdiv_eq_ediv_of_nonneg _ (by exact_mod_cast Nat.zero_le _)]
 simp
theorem Hd (n : Nat) (h : n < 256) : lM .u8 n 15 = ((n % 16 : Nat) : Int) := by
 show IntKind.u8.wrap ((BitVec.ofInt 8 (n : Int) &&& BitVec.ofInt 8 15).toNat : Int) = _
 rw [ko, BitVec.ofInt_natCast, show BitVec.ofInt 8 15 = BitVec.ofNat 8 15 from rfl, BitVec.toNat_and, BitVec.toNat_ofNat, BitVec.toNat_ofNat, Nat.mod_eq_of_lt h,
  show n &&& 15 % 2 ^ 8 = n % 16 from Nat.and_two_pow_sub_one_eq_mod n 4]
 omega
theorem C1 {x : V} : ∀ {cs : List V} {n : Nat}, n < cs.length → gO cs n [x] = some (cs.set n x)
 | [], n, h => by simp at h
 | y :: cs, 0, _ => by simp [gO]
 | y :: cs, n + 1, h => by simp only [gO]; rw [C1 (cs := cs) (by simpa using h)]; simp
theorem goN {cs : List V} {n : Nat} {x : V} {K : List V → Prop} (h1 : ab (n < cs.length)) (h2 : K (cs.set n x)) : eH (gO cs n [x]) K := by rw [C1 h1.h]; exact h2
theorem Cv : ∀ {cs : List V} {m : Nat}, m ≤ cs.length → gd cs m = some (cs.take m)
 | cs, 0, _ => by cases cs <;> simp [gd]
 | [], m + 1, h => by simp at h
 | c :: cs, m + 1, h => by simp only [gd]; rw [Cv (cs := cs) (by simpa using h)]; simp
theorem goO {cs : List V} {a m : Nat} {K : List V → Prop} (h1 : ab (a + m ≤ cs.length)) (h2 : K ((cs.drop a).take m)) : eH (gd (iC cs a) m) K := by
 rw [rf, Cv (by simp; have := h1.h; omega)]; exact h2
theorem goP {l : List V} {K : List V → Prop} (h : K l) : c7 l K := by rw [iX]; exact h
theorem JN (s : List UInt8) : V.g9 (bl s) = true := by induction s <;> simp_all [bl, bv, V.g9, V.pure]
theorem Jh (s : List UInt8) : dg (bl s) = true := by induction s <;> simp_all [bl, bv, dg, V.one]
theorem go1 {P : Nat × Int → Prop} {o : Option (Nat × Int)} {Q : Prop} (h : ∀ j q, o = some (j, q) → P (j, q)) (k : o = none → Q) : (∀ a, o = some a → P a) ∧ (o = none → Q) := ⟨fun ⟨j, q⟩ e => h j q e, k⟩
theorem KY (s : List UInt8) (n : Nat) : V.ke n (bl s) = true := by induction s <;> simp_all [bl, bv, V.ke, V.eF]
theorem Di (s : List UInt8) (n : Nat) (b : UInt8) : (bl s).set n (.int .u8 b.toNat) = bl (s.set n b) := by rw [pd, pd, List.map_set]; rfl
def Wk (x y : V) : Prop := ∀ (st : St) (g : af) (n : Nat) (v : Value), VR st g x n v → VR st g y n v
def iR (xs ys : List V) : Prop := ∀ (st : St) (g : af) (n : Nat) (vs : List Value), av st g xs n vs → av st g ys n vs
theorem iR.cons {x y : V} {xs ys : List V} (h : Wk x y) (hs : iR xs ys) : iR (x :: xs) (y :: ys) := fun st g n vs k => by
 simp only [av] at k ⊢
 obtain ⟨u, us, rfl, h1, h2⟩ := k
 exact ⟨u, us, rfl, h _ _ _ _ h1, hs _ _ _ _ h2⟩
theorem iR.refl (xs : List V) : iR xs xs := fun _ _ _ _ h => h
theorem Wk.nil {c d : Bool} {sz sz' : Nat} (h : c = true ∨ d = false) : Wk (.list c sz []) (.list d sz' []) := fun st g n v k => by
 simp only [VR] at k ⊢
 obtain ⟨base, cap, rfl, h1, h2, h3, _⟩ := k
 refine ⟨base, cap, rfl, h1, h2, fun hd => ?_, .inl trivial⟩
 rcases h with h | h
 . exact h3 h
 . rw [h] at hd; cases hd
theorem fq.args {P : Program} {gl : Nat → Option (List V)} {f : FuncId} {xs ys : List V} {σ : List O} {x : V} {r : Option (List O)} (h : fq P gl f ys σ x r) (k : iR xs ys) : fq P gl f xs σ x r :=
 ⟨h.1, fun E st g w vs W hg hv => h.2 E st g w vs W hg (k _ _ _ _ hv)⟩
theorem fq.nil {P : Program} {gl : Nat → Option (List V)} {f : FuncId} {xs : List V} {σ σ' : List O} {x : V} (k z sz : Nat) (hx : xs[k]? = some (.list true z []))
   (h : fq P gl f (xs.set k (.buf σ.length)) (σ ++ [.buf (sz + 1) 0 []]) x (some σ')) : fq P gl f xs σ x (some σ') := by
 refine ⟨h.1, fun E st g w vs W hg hv => ?_⟩
 obtain ⟨v, hv1, hv2⟩ := jk hv hx
 simp only [VR] at hv2
 obtain ⟨base, cap, rfl, _, _, hcap, _⟩ := hv2
 obtain rfl : cap = 0 := by simpa using hcap trivial
 have W2 := W.ghost (base := base) (sz := sz + 1) (Nat.succ_pos _)
 have hlen : (σ ++ [O.buf (sz + 1) 0 []]).length = σ.length + 1 := by simp
 have hl := dz hv
 refine (h.2 E st _ w vs W2 hg ?_).mono fun e w' ⟨v, st', g', h1, h2, h3, h4, h5, h6⟩ => ⟨v, st', g', h1, h2, h3, h4, ?_, fun i o ho hor => ?_⟩
 . rw [hlen, gn]
   refine ⟨by simpa using hl, fun i c v hc hvi => ?_⟩
   by_cases e : i = k
   . subst e
     rw [List.getElem?_set_self (by rcases Nat.lt_or_ge i xs.length with h' | h'; exact h'; simp [List.getElem?_eq_none h'] at hx)] at hc
     cases hc
     rw [hv1] at hvi; cases hvi
     simp only [VR]
     exact ⟨Nat.lt_succ_self _, by rw [dv]; simp⟩
   . rw [List.getElem?_set_ne (Ne.symm e)] at hc
     exact p6 ((gn.1 hv).2 i c v hc hvi)
 . simp only [Option.getD_some] at h5 ⊢
   rw [hlen] at h5; omega
 . have hi : i < σ.length := by
     rcases Nat.lt_or_ge i σ.length with h' | h'
     . exact h'
     . simp [List.getElem?_eq_none h'] at ho
   have := h6 i o (by rw [List.getElem?_append_left hi]; exact ho) hor
   rw [this, cG (Nat.ne_of_lt hi)]

def Sm : Type := List V → List O → Option (Prop × V × Option (List O))
def qK (P : Program) (gl : Nat → Option (List V)) (f : FuncId) (s : Sm) : Prop := ∀ args sg pre x r, s args sg = some (pre, x, r) → pre → fq P gl f args sg x r
def sm0 : Sm := fun _ _ => none
theorem Ld {P : Program} {gl : Nat → Option (List V)} {f : FuncId} : qK P gl f sm0 := fun _ _ _ _ _ h => by cases h
theorem hH {a b : List UInt8} (h : a = b) : V.str a = V.str b := by rw [h]
theorem aR {k : IntKind} {a b : Int} (h : a = b) : V.int k a = V.int k b := by rw [h]
theorem ky {a b : Bool} (h : a = b) : V.bool a = V.bool b := by rw [h]
theorem aM {n m : Nat} {a b : List V} (h : a = b) : O.buf n m a = O.buf n m b := by rw [h]
theorem eqE {a b : List V} (h : a = b) : O.cells a = O.cells b := by rw [h]
theorem eqF {c : Bool} {n : Nat} {a b : List V} (h : a = b) : V.list c n a = V.list c n b := by rw [h]
theorem eqG {a b : List V} (h : a = b) : V.agg a = V.agg b := by rw [h]
theorem jr {a b : List V} (h : a = b) : V.tuple a = V.tuple b := by rw [h]
theorem dm {α : Type} {x y : α} {xs ys : List α} (h : x = y) (k : xs = ys) : x :: xs = y :: ys := by rw [h, k]
theorem eqS (s : List UInt8) (n : Nat) : V.ke n (bl s) = true := KY s n
abbrev eD : Type := List V → List O → Option (Prop × Prop × V × Option (List O) × V × Option (List O))
def qI (P : Program) (gl : Nat → Option (List V)) (f : FuncId) (s : eD) : Prop := ∀ args sg pre c u r x r2, s args sg = some (pre, c, u, r, x, r2) → pre →
 (c → ∃ v, ja u = some v ∧ nf P gl f args sg v r) ∧ (¬ c → fq P gl f args sg x r2)
def psm0 : eD := fun _ _ => none
theorem JL {P : Program} {gl : Nat → Option (List V)} {f : FuncId} : qI P gl f psm0 := fun _ _ _ _ _ _ _ _ h => by cases h
theorem gD {p c A B : Prop} (h : ab p) (h1 : c → A) (h2 : ¬ c → B) : ((p ∧ c) ∨ (p ∧ ¬ c)) ∧ ((p ∧ c) → A) ∧ ((p ∧ ¬ c) → B) := by
 refine ⟨?_, fun q => h1 q.2, fun q => h2 q.2⟩
 by_cases hc : c
 . exact .inl ⟨h.h, hc⟩
 . exact .inr ⟨h.h, hc⟩
class mg (p : Prop) : Prop where
 y : True
instance {a b c d} : mg (bn a b c d) := ⟨trivial⟩
instance {a b c d e} : mg (mc a b c d e) := ⟨trivial⟩
instance {a b c d e f} : mg (a8 a b c d e f) := ⟨trivial⟩
instance {a b c} : mg (cJ a b c) := ⟨trivial⟩
instance : mg False := ⟨trivial⟩
instance {α} {p : α → Prop} : mg (∃ x, p x) := ⟨trivial⟩
theorem stay {p : Prop} [mg p] (h : p) : p := h
theorem aj {a b : Prop} (h : a) (k : b) : a ∧ b := ⟨h, k⟩
end Go.VG
namespace Go.VG
open Go
section
variable {H : Type} {ti : TypeId → TI} {f : Nat} {t : TypeId} {d : DataW H} {xs : List V}
theorem Dt (hk : (ti t).k = .string) (h : bG ti f t d = some xs) : ∃ s, xs = [.str s] ∧ d = .lit (.string s) := by
 cases f with
 | zero => simp [bG] at h
 | succ f =>
   unfold bG at h
   rw [hk] at h
   split at h <;> simp_all
theorem D5 {t : TypeId} {ds : List (DataW H)} {xs : List V} (h : kp ti [t] ds xs) : ∃ d x, ds = [d] ∧ xs = [x] ∧ IsD ti t d x := by
 match ds, xs, h with
 | [d], [x], h => exact ⟨d, x, rfl, rfl, h.1⟩
 | [], [], h => exact h.elim
 | [], _ :: _, h => exact h.elim
 | [_], [], h => exact h.elim
 | [_], _ :: _ :: _, h => exact h.2.elim
 | _ :: _ :: _, [], h => exact h.elim
 | _ :: _ :: _, _ :: _, h => exact absurd h.2 (by simp [kp])
theorem Hh (hk : (ti t).k = .string) {x : V} (h : IsD ti t d x) : ∃ s, x = .str s ∧ d = .lit (.string s) := by
 obtain ⟨f, h⟩ := h
 simp only [Option.bind_eq_some_iff] at h
 obtain ⟨cs, h1, h2⟩ := h
 obtain ⟨s, rfl, rfl⟩ := Dt hk h1
 rw [hk] at h2
 have h2 : some (V.str s) = some x := h2
 cases h2
 exact ⟨s, rfl, rfl⟩
end
end Go.VG
