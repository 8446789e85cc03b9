/-
  A part of the proof.
-/
import Derived.Test.YtipejldppicijaaGreatDoorVgX
set_option linter.unusedSimpArgs false
set_option linter.unusedVariables false
namespace Go.VG
open Go

structure a8 (A : Prop) : Prop where
 h : A

theorem a9 {A B : Prop} (h : a8 A) (k : B) : A ∧ B := ⟨h.h, k⟩
theorem bE {b : Bool} {A B : Prop} (h1 : b = true → A) (h2 : b = false → B) : bc b A B := by cases b <;> simp_all [bc]
theorem ao {p : Prop} {d : Decidable p} {A B : Prop} (h1 : p → A) (h2 : ¬ p → B) : bc (@decide p d) A B := bE (fun h => h1 (by simpa using h)) (fun h => h2 (by simpa using h))
theorem go7 {a b : Int} {A B : Prop} (h1 : a = b → A) (h2 : a ≠ b → B) : bc (a == b) A B := bE (fun h => h1 (by simpa using h)) (fun h => h2 (by simpa using h))
theorem go8 {a b : Int} {A B : Prop} (h1 : a ≠ b → A) (h2 : a = b → B) : bc (a != b) A B := bE (fun h => h1 (by simpa using h)) (fun h => h2 (by simpa using h))
theorem iW {a b : List UInt8} {A B : Prop} (h1 : a = b → A) (h2 : a ≠ b → B) : bc (a == b) A B := bE (fun h => h1 (by simpa using h)) (fun h => h2 (by simpa using h))
theorem aQ {b : Bool} {A B : Prop} (h : bc b B A) : bc (!b) A B := by cases b <;> exact h
theorem mD {b : Bool} {A : Prop} (h1 : a8 (b = true)) (h2 : A) : fi b A := by
 obtain ⟨h⟩ := h1; subst h; exact h2
theorem la {α : Type} {l : List α} {n : Nat} {K : α → Prop} (h1 : a8 (n < l.length)) (h2 : ∀ a, l[n]? = some a → K a) : dj l n K :=
 ⟨l[n]'h1.h, List.getElem?_eq_getElem h1.h, h2 _ (List.getElem?_eq_getElem h1.h)⟩
theorem gR {s : List UInt8} {n : Nat} {K : UInt8 → Prop} (h1 : a8 (n < s.length)) (h2 : (s.getD n 0).toNat < 256 → K (s.getD n 0)) : dj s n K :=
 la h1 fun a ha => by rw [List.getD_eq_getElem?_getD, ha] at h2; exact h2 (UInt8.toNat_lt _)
theorem gn {s : List UInt8} {n : Nat} {K : UInt8 → Prop} (h1 : a8 (n < s.length)) (h2 : (s.getD n 0).toNat < 256 → K (s.getD n 0)) : dj s (n : Int).toNat K := gR h1 h2
theorem sQ {α γ : Type} {l : List α} {e : α → γ} {n : Nat} {K : γ → Prop} (h1 : a8 (n < l.length)) (h2 : ∀ a, l[n]? = some a → K (e a)) : dj (l.map e) n K := by
 refine la ⟨by simpa using h1.h⟩ fun a ha => ?_
 simp only [List.getElem?_map, Option.map_eq_some_iff] at ha
 obtain ⟨b, hb, rfl⟩ := ha
 exact h2 b hb
theorem nM (s : List UInt8) : bl s = s.map bv := by induction s <;> simp_all [bl]
theorem mE {s : List UInt8} {n : Nat} {K : V → Prop} (h1 : a8 (n < s.length)) (h2 : (s.getD n 0).toNat < 256 → K (.int .u8 (s.getD n 0).toNat)) : dj (bl s) n K := by
 rw [nM]; exact sQ h1 fun a ha => by rw [List.getD_eq_getElem?_getD, ha] at h2; exact h2 (UInt8.toNat_lt _)
theorem goB {s : List UInt8} {n : Nat} {K : V → Prop} (h1 : a8 (n < s.length)) (h2 : (s.getD n 0).toNat < 256 → K (.int .u8 (s.getD n 0).toNat)) : dj (bl s) (n : Int).toNat K := mE h1 h2
theorem ie {α γ : Type} [Inhabited α] {l : List α} {e : α → γ} {n : Nat} {K : γ → Prop} (h1 : a8 (n < l.length)) (h2 : K (e (l.getD n default))) : dj (l.map e) n K :=
 sQ h1 fun a ha => by rw [List.getD_eq_getElem?_getD, ha] at h2; exact h2
theorem l9 {α γ : Type} [Inhabited α] {l : List α} {e : α → γ} {n : Nat} {K : γ → Prop} (h1 : a8 (n < l.length)) (h2 : K (e (l.getD n default))) : dj (l.map e) (n : Int).toNat K := ie h1 h2
theorem cq (s t : List UInt8) : bl (s ++ t) = bl s ++ bl t := by simp [nM]
theorem AO (s : List UInt8) (n : Nat) : (bl s).drop n = bl (s.drop n) := by simp [nM]
theorem ig {s : List UInt8} {Q : List UInt8 → Prop} (h : Q s) : ∃ a, bl s = bl a ∧ Q a := ⟨s, rfl, h⟩
def byte (n : Int) : UInt8 := .ofNat n.toNat
theorem dc {n : Int} (h : 0 ≤ n ∧ n ≤ 255) : ((byte n).toNat : Int) = n := by
 simp only [byte, UInt8.toNat_ofNat']; omega
theorem sk (b : UInt8) : byte b.toNat = b := by
 have := dc (n := b.toNat) (by have := b.toNat_lt; omega)
 exact UInt8.toNat_inj.1 (by omega)
theorem ld {n : Int} {Q : List UInt8 → Prop} (h1 : a8 (0 ≤ n ∧ n ≤ 255)) (h : Q [byte n]) : ∃ a, [V.int .u8 n] = bl a ∧ Q a := ⟨_, by simp [bl, bv, dc h1.h], h⟩
theorem mF {n m : Int} {Q : List UInt8 → Prop} (h1 : a8 (0 ≤ n ∧ n ≤ 255)) (h2 : a8 (0 ≤ m ∧ m ≤ 255)) (h : Q [byte n, byte m]) : ∃ a, [V.int .u8 n, V.int .u8 m] = bl a ∧ Q a := ⟨_, by simp [bl, bv, dc h1.h, dc h2.h], h⟩
theorem mG {n m k : Int} {Q : List UInt8 → Prop} (h1 : a8 (0 ≤ n ∧ n ≤ 255)) (h2 : a8 (0 ≤ m ∧ m ≤ 255)) (h3 : a8 (0 ≤ k ∧ k ≤ 255)) (h : Q [byte n, byte m, byte k]) : ∃ a, [V.int .u8 n, V.int .u8 m, V.int .u8 k] = bl a ∧ Q a :=
 ⟨_, by simp [bl, bv, dc h1.h, dc h2.h, dc h3.h], h⟩
theorem mH {n m k l : Int} {Q : List UInt8 → Prop} (h1 : a8 (0 ≤ n ∧ n ≤ 255)) (h2 : a8 (0 ≤ m ∧ m ≤ 255)) (h3 : a8 (0 ≤ k ∧ k ≤ 255)) (h4 : a8 (0 ≤ l ∧ l ≤ 255)) (h : Q [byte n, byte m, byte k, byte l]) :
   ∃ a, [V.int .u8 n, V.int .u8 m, V.int .u8 k, V.int .u8 l] = bl a ∧ Q a :=
 ⟨_, by simp [bl, bv, dc h1.h, dc h2.h, dc h3.h, dc h4.h], h⟩
theorem iE (n : Int) : IntKind.u8.wrap n = n % 256 := rfl
theorem wu16 (n : Int) : IntKind.u16.wrap n = n % 65536 := rfl
theorem wu32 (n : Int) : IntKind.u32.wrap n = n % 4294967296 := rfl
theorem eo (n : Int) : IntKind.u64.wrap n = n % 18446744073709551616 := rfl
theorem bS (n : Int) : IntKind.i64.wrap n = (n + 9223372036854775808) % 18446744073709551616 - 9223372036854775808 := by
 show (if true && decide (n % 18446744073709551616 ≥ 9223372036854775808) then n % 18446744073709551616 - 18446744073709551616 else n % 18446744073709551616) = _
 simp only [Bool.true_and, decide_eq_true_eq]; split <;> omega
theorem wi32 (n : Int) : IntKind.i32.wrap n = (n + 2147483648) % 4294967296 - 2147483648 := by
 show (if true && decide (n % 4294967296 ≥ 2147483648) then n % 4294967296 - 4294967296 else n % 4294967296) = _
 simp only [Bool.true_and, decide_eq_true_eq]; split <;> omega
theorem wR : (∀ n, IntKind.u8.wrap n = n % 256) ∧ (∀ n, IntKind.u16.wrap n = n % 65536) ∧ (∀ n, IntKind.u32.wrap n = n % 4294967296) ∧ (∀ n, IntKind.u64.wrap n = n % 18446744073709551616) ∧
   (∀ n, IntKind.i32.wrap n = (n + 2147483648) % 4294967296 - 2147483648) ∧ (∀ n, IntKind.i64.wrap n = (n + 9223372036854775808) % 18446744073709551616 - 9223372036854775808) ∧
   (∀ {a b : Int}, 0 ≤ a → a.tdiv b = a / b) ∧ (∀ {a b : Int}, 0 ≤ a → a.tmod b = a % b) :=
 ⟨iE, wu16, wu32, eo, wi32, bS, fun h => Int.tdiv_eq_ediv_of_nonneg h, fun h => Int.tmod_eq_emod_of_nonneg h⟩
theorem aV : (∀ {α : Type} {a b : List α}, (a ++ b).length = a.length + b.length) ∧ (∀ {α : Type} {x : α} {a : List α}, (x :: a).length = a.length + 1) ∧ (∀ {α : Type}, ([] : List α).length = 0) ∧ (∀ s, (bl s).length = s.length) ∧
   (∀ {α : Type} {i : Nat} {a : List α}, (a.take i).length = min i a.length) ∧ (∀ {α : Type} {i : Nat} {a : List α}, (a.drop i).length = a.length - i) :=
 ⟨List.length_append, List.length_cons, List.length_nil, bC, List.length_take, List.length_drop⟩
theorem qa {α : Type} {l : List α} {n : Nat} (d : α) (h : n < l.length) : (l.take (n + 1)).drop n = [l.getD n d] := by
 rw [List.drop_take, show n + 1 - n = 1 by omega]
 rw [List.getD_eq_getElem?_getD, List.getElem?_eq_getElem h]
 rw [List.drop_eq_getElem_cons h]; rfl
theorem vj {s : List UInt8} {i : Nat} (h : i < s.length) : s.take (i + 1) = s.take i ++ [s.getD i 0] := by
 rw [List.take_add_one, List.getD_eq_getElem?_getD, List.getElem?_eq_getElem h]; rfl
theorem AX {α : Type} {x y : α} {xs ys : List α} (h : x = y) (k : xs = ys) : x :: xs = y :: ys := by rw [h, k]
theorem jQ (k : IntKind) (n b : Nat) : ba k n b = ((n / 2 ^ (min b k.bits) : Nat) : Int) := by
 unfold ba
 rw [show ((b : Int)).toNat = b from rfl, Int.fdiv_eq_ediv_of_nonneg _ (by exact_mod_cast Nat.zero_le _)]
 simp
theorem sL (n : Nat) (h : n < 256) : iY .u8 n 15 = ((n % 16 : Nat) : Int) := by
 show IntKind.u8.wrap ((BitVec.ofInt 8 (n : Int) &&& BitVec.ofInt 8 15).toNat : Int) = _
 rw [iE, BitVec.ofInt_natCast, show BitVec.ofInt 8 15 = BitVec.ofNat 8 15 from rfl, BitVec.toNat_and, BitVec.toNat_ofNat, BitVec.toNat_ofNat, Nat.mod_eq_of_lt h,
  show n &&& 15 % 2 ^ 8 = n % 16 from Nat.and_two_pow_sub_one_eq_mod n 4]
 omega
theorem zj {x : V} : ∀ {cs : List V} {n : Nat}, n < cs.length → fe cs n [x] = some (cs.set n x)
 | [], n, h => by simp at h
 | y :: cs, 0, _ => by simp [fe]
 | y :: cs, n + 1, h => by simp only [fe]; rw [zj (cs := cs) (by simpa using h)]; simp
theorem goN {cs : List V} {n : Nat} {x : V} {K : List V → Prop} (h1 : a8 (n < cs.length)) (h2 : K (cs.set n x)) : dx (fe cs n [x]) K := by rw [zj h1.h]; exact h2
theorem zW : ∀ {cs : List V} {m : Nat}, m ≤ cs.length → eE cs m = some (cs.take m)
 | cs, 0, _ => by cases cs <;> simp [eE]
 | [], m + 1, h => by simp at h
 | c :: cs, m + 1, h => by simp only [eE]; rw [zW (cs := cs) (by simpa using h)]; simp
theorem mI {cs : List V} {a m : Nat} {K : List V → Prop} (h1 : a8 (a + m ≤ cs.length)) (h2 : K ((cs.drop a).take m)) : dx (eE (fR cs a) m) K := by
 rw [qg, zW (by simp; have := h1.h; omega)]; exact h2
theorem mJ {l : List V} {K : List V → Prop} (h : K l) : bF l K := by rw [gj]; exact h
theorem GU (s : List UInt8) : V.dO (bl s) = true := by induction s <;> simp_all [bl, bv, V.dO, V.pure]
theorem GH (s : List UInt8) : cz (bl s) = true := by induction s <;> simp_all [bl, bv, cz, V.one]
theorem go1 {P : Nat × Int → Prop} {o : Option (Nat × Int)} {Q : Prop} (h : ∀ j q, o = some (j, q) → P (j, q)) (k : o = none → Q) : (∀ a, o = some a → P a) ∧ (o = none → Q) := ⟨fun ⟨j, q⟩ e => h j q e, k⟩
theorem go2 {bs bs' : List Nat} {ck ck' : Nat} {left : List Nat} {A : Prop} {B : Nat → Prop} (h0 : bs' = bs ∧ ck' = ck) (h1 : left = [] → A) (h2 : ∀ j, j ∈ left → B j) :
 (bs' = bs ∧ ck' = ck) ∧ (left = [] → A) ∧ (∀ j, j ∈ left → B j) := ⟨h0, h1, h2⟩
theorem I1 (s : List UInt8) (n : Nat) : V.iy n (bl s) = true := by induction s <;> simp_all [bl, bv, V.iy, V.dv]
theorem AP (s : List UInt8) (n : Nat) (b : UInt8) : (bl s).set n (.int .u8 b.toNat) = bl (s.set n b) := by rw [nM, nM, List.map_set]; rfl
def Wk (x y : V) : Prop := ∀ (st : St) (g : ae) (n : Nat) (v : Value), VR st g x n v → VR st g y n v
def aC (xs ys : List V) : Prop := ∀ (st : St) (g : ae) (n : Nat) (vs : List Value), aq st g xs n vs → aq st g ys n vs
theorem Wk.refl (x : V) : Wk x x := fun _ _ _ _ h => h
theorem aC.nil : aC [] [] := fun _ _ _ _ h => h
theorem aC.cons {x y : V} {xs ys : List V} (h : Wk x y) (hs : aC xs ys) : aC (x :: xs) (y :: ys) := fun st g n vs k => by
 simp only [aq] at k ⊢
 obtain ⟨u, us, rfl, h1, h2⟩ := k
 exact ⟨u, us, rfl, h _ _ _ _ h1, hs _ _ _ _ h2⟩
theorem aC.refl (xs : List V) : aC xs xs := fun _ _ _ _ h => h
theorem Wk.agg {xs ys : List V} (h : aC xs ys) : Wk (.agg xs) (.agg ys) := fun st g n v k => by
 simp only [VR] at k ⊢
 obtain ⟨vs, rfl, k⟩ := k
 exact ⟨vs, rfl, h _ _ _ _ k⟩
theorem Wk.tuple {xs ys : List V} (h : aC xs ys) : Wk (.tuple xs) (.tuple ys) := fun st g n v k => by
 simp only [VR] at k ⊢
 obtain ⟨vs, rfl, k⟩ := k
 exact ⟨vs, rfl, h _ _ _ _ k⟩
theorem Wk.nil {c d : Bool} {sz sz' : Nat} (h : c = true ∨ d = false) : Wk (.list c sz []) (.list d sz' []) := fun st g n v k => by
 simp only [VR] at k ⊢
 obtain ⟨base, cap, rfl, h1, h2, h3, _⟩ := k
 refine ⟨base, cap, rfl, h1, h2, fun hd => ?_, .inl trivial⟩
 rcases h with h | h
 . exact h3 h
 . rw [h] at hd; cases hd
theorem Wk.clip {c : Bool} {sz : Nat} {l : List V} : Wk (.list c sz l) (.list false sz l) := fun st g n v k => by
 simp only [VR] at k ⊢
 obtain ⟨base, cap, rfl, h1, h2, h3, h4⟩ := k
 exact ⟨base, cap, rfl, h1, h2, by simp, h4⟩
theorem cI.args {P : Program} {gl : Nat → Option (List V)} {f : FuncId} {xs ys : List V} {σ : List O} {x : V} {r : Option (List O)} (h : cI P gl f ys σ x r) (k : aC xs ys) : cI P gl f xs σ x r :=
 ⟨h.1, fun E st g w vs W hg hv => h.2 E st g w vs W hg (k _ _ _ _ hv)⟩
theorem cI.res {P : Program} {gl : Nat → Option (List V)} {f : FuncId} {xs : List V} {σ : List O} {x y : V} {r : Option (List O)} (h : cI P gl f xs σ x r) (k : Wk x y) : cI P gl f xs σ y r :=
 ⟨h.1, fun E st g w vs W hg hv => (h.2 E st g w vs W hg hv).mono fun _ _ ⟨v, st', g', h1, h2, h3, h4⟩ => ⟨v, st', g', h1, h2, k _ _ _ _ h3, h4⟩⟩

theorem cI.nil {P : Program} {gl : Nat → Option (List V)} {f : FuncId} {xs : List V} {σ σ' : List O} {x : V} (k z sz : Nat) (hx : xs[k]? = some (.list true z []))
   (h : cI P gl f (xs.set k (.buf σ.length)) (σ ++ [.buf (sz + 1) 0 []]) x (some σ')) : cI P gl f xs σ x (some σ') := by
 refine ⟨h.1, fun E st g w vs W hg hv => ?_⟩
 obtain ⟨v, hv1, hv2⟩ := kM hv hx
 simp only [VR] at hv2
 obtain ⟨base, cap, rfl, _, _, hcap, _⟩ := hv2
 obtain rfl : cap = 0 := by simpa using hcap trivial
 have W2 := W.ghost (base := base) (sz := sz + 1) (Nat.succ_pos _)
 have hlen : (σ ++ [O.buf (sz + 1) 0 []]).length = σ.length + 1 := by simp
 have hl := dk hv
 refine (h.2 E st _ w vs W2 hg ?_).mono fun e w' ⟨v, st', g', h1, h2, h3, h4, h5, h6⟩ => ⟨v, st', g', h1, h2, h3, h4, ?_, fun i o ho hor => ?_⟩
 . rw [hlen, eH]
   refine ⟨by simpa using hl, fun i c v hc hvi => ?_⟩
   by_cases e : i = k
   . subst e
     rw [List.getElem?_set_self (by rcases Nat.lt_or_ge i xs.length with h' | h'; exact h'; simp [List.getElem?_eq_none h'] at hx)] at hc
     cases hc
     rw [hv1] at hvi; cases hvi
     simp only [VR]
     exact ⟨Nat.lt_succ_self _, by rw [cG]; simp⟩
   . rw [List.getElem?_set_ne (Ne.symm e)] at hc
     exact nD ((eH.1 hv).2 i c v hc hvi)
 . simp only [Option.getD_some] at h5 ⊢
   rw [hlen] at h5; omega
 . have hi : i < σ.length := by
     rcases Nat.lt_or_ge i σ.length with h' | h'
     . exact h'
     . simp [List.getElem?_eq_none h'] at ho
   have := h6 i o (by rw [List.getElem?_append_left hi]; exact ho) hor
   rw [this, bU (Nat.ne_of_lt hi)]

def Sm : Type := List V → List O → Option (Prop × V × Option (List O))
def pP (P : Program) (gl : Nat → Option (List V)) (f : FuncId) (s : Sm) : Prop := ∀ args sg pre x r, s args sg = some (pre, x, r) → pre → cI P gl f args sg x r
def sm0 : Sm := fun _ _ => none
theorem Ib {P : Program} {gl : Nat → Option (List V)} {f : FuncId} : pP P gl f sm0 := fun _ _ _ _ _ h => by cases h
theorem b9 {a b : List UInt8} (h : a = b) : V.str a = V.str b := by rw [h]
theorem ax {k : IntKind} {a b : Int} (h : a = b) : V.int k a = V.int k b := by rw [h]
theorem ct {a b : Bool} (h : a = b) : V.bool a = V.bool b := by rw [h]
theorem aG {n m : Nat} {a b : List V} (h : a = b) : O.buf n m a = O.buf n m b := by rw [h]
theorem cf {a b : List V} (h : a = b) : O.cells a = O.cells b := by rw [h]
theorem cY {c : Bool} {n : Nat} {a b : List V} (h : a = b) : V.list c n a = V.list c n b := by rw [h]
theorem de {a b : List V} (h : a = b) : V.agg a = V.agg b := by rw [h]
theorem cg {a b : List V} (h : a = b) : V.tuple a = V.tuple b := by rw [h]
theorem aX {α : Type} {x y : α} {xs ys : List α} (h : x = y) (k : xs = ys) : x :: xs = y :: ys := by rw [h, k]
theorem cZ (s : List UInt8) (n : Nat) : V.iy n (bl s) = true := I1 s n
theorem goQ {p c A B : Prop} (h : a8 p) (h1 : c → A) (h2 : ¬ c → B) : ((p ∧ c) ∨ (p ∧ ¬ c)) ∧ ((p ∧ c) → A) ∧ ((p ∧ ¬ c) → B) := by
 refine ⟨?_, fun q => h1 q.2, fun q => h2 q.2⟩
 by_cases hc : c
 . exact .inl ⟨h.h, hc⟩
 . exact .inr ⟨h.h, hc⟩
class kK (p : Prop) : Prop where
 y : True
instance {a b c d} : kK (br a b c d) := ⟨trivial⟩
instance {a b c d e} : kK (kJ a b c d e) := ⟨trivial⟩
instance {a b c d e f} : kK (a7 a b c d e f) := ⟨trivial⟩
instance {a b c} : kK (PanP a b c) := ⟨trivial⟩
instance : kK False := ⟨trivial⟩
instance {α} {p : α → Prop} : kK (∃ x, p x) := ⟨trivial⟩
theorem stay {p : Prop} [kK p] (h : p) : p := h
theorem ah {a b : Prop} (h : a) (k : b) : a ∧ b := ⟨h, k⟩
end Go.VG
namespace Go.VG
open Go
section
variable {H : Type} {ti : TypeId → TI} {f : Nat} {t : TypeId} {d : DataW H} {xs : List V}
theorem sm {k : IntKind} (hk : (ti t).k = .int k) (h : aN ti f t d = some xs) : ∃ n, xs = [.int k n] := by
 cases f with
 | zero => simp [aN] at h
 | succ f =>
   unfold aN at h
   rw [hk] at h
   split at h <;> simp_all
   exact ⟨_, h.symm⟩
theorem w5 (hk : (ti t).k = .string) (h : aN ti f t d = some xs) : ∃ s, xs = [.str s] := by
 cases f with
 | zero => simp [aN] at h
 | succ f =>
   unfold aN at h
   rw [hk] at h
   split at h <;> simp_all
   exact ⟨_, h.symm⟩
theorem w4 {e : TypeId} (hk : (ti t).k = .slice e) (h : aN ti f t d = some xs) : xs = [.list true (ti e).size []] ∨ ∃ f' ds l, f = f' + 1 ∧ (ds : List (DataW H)).mapM (fun x => (aN ti f' e x).bind (dU (ti e).k.isAgg)) = some l ∧ xs = [.list false (ti e).size l] := by
 cases f with
 | zero => simp [aN] at h
 | succ f =>
   unfold aN at h
   rw [hk] at h
   split at h <;> simp_all
   . rename_i h1
     obtain ⟨l, h3, h4⟩ := h
     exact .inr ⟨_, l, h3, h4.symm⟩
theorem w6 {fs : List (Nat × TypeId)} (hk : (ti t).k = .struct fs) (h : aN ti f t d = some xs) : ∃ f' parts xss, f = f' + 1 ∧ (parts : List (DataW H)).length = fs.length ∧ (fs.zip parts).mapM (fun p => aN ti f' p.1.2 p.2) = some xss ∧ xs = xss.flatten := by
 cases f with
 | zero => simp [aN] at h
 | succ f =>
   unfold aN at h
   rw [hk] at h
   cases d <;> simp only at h <;> try (cases h; done)
   rename_i parts
   cases hb : Nat.beq fs.length parts.length with
   | false => rw [hb] at h; cases h
   | true =>
     rw [hb] at h
     simp only [cond_true, Option.map_eq_some_iff] at h
     obtain ⟨xss, h2, h3⟩ := h
     exact ⟨f, parts, xss, rfl, (Nat.eq_of_beq_eq_true hb).symm, h2, h3.symm⟩
theorem j6 {α β : Type} {g : α → Option β} {x : α} {l : List α} {r : List β} (h : (x :: l).mapM g = some r) : ∃ y ys, g x = some y ∧ l.mapM g = some ys ∧ r = y :: ys := by
 rw [List.mapM_cons] at h
 cases hx : g x with
 | none => rw [hx] at h; simp at h
 | some y =>
   rw [hx] at h
   cases hl : l.mapM g with
   | none => rw [hl] at h; simp at h
   | some ys =>
     rw [hl] at h
     simp at h
     exact ⟨y, ys, rfl, rfl, h.symm⟩
theorem tp {α β : Type} {g : α → Option V} {enc : β → V} {sz : Nat} : ∀ {ds : List α} {l : List V}, ds.mapM g = some l → (∀ d x, g d = some x → ∃ b, Wk x (enc b)) → ∃ bs : List β, Wk (.list false sz l) (.list false sz (bs.map enc)) ∧ bs.length = ds.length
 | [], l, h, _ => by
   simp at h; subst h
   exact ⟨[], Wk.refl _, rfl⟩
 | d :: ds, l, h, hd => by
   obtain ⟨y, ys, h1, h2, rfl⟩ := j6 h
   obtain ⟨b, hb⟩ := hd _ _ h1
   obtain ⟨bs, hbs, hl⟩ := tp (sz := sz) h2 hd
   have hlen : ys.length = bs.length := by rw [hl]; exact mapM_some_length h2
   refine ⟨b :: bs, ?_, by simp [hl]⟩
   intro st gg n v k
   simp only [VR] at k
   obtain ⟨base, cap, rfl, k1, k2, _, k3⟩ := k
   rcases k3 with k3 | ⟨bb, o, k4, k5, k6⟩
   . cases k3
   . have k7 : VR st gg (.list false sz ys) n (.slice (some ⟨bb, o + sz, none⟩) ys.length ys.length) := by
       simp only [VR]
       simp only [bh] at k6
       refine ⟨_, _, rfl, Nat.le_refl _, by simp at k2; omega, by simp, ?_⟩
       cases ys with
       | nil => exact .inl rfl
       | cons _ _ => exact .inr ⟨bb, o + sz, rfl, k5, k6.2⟩
     have k8 := hbs st gg n _ k7
     simp only [VR] at k8 ⊢
     refine ⟨base, cap, by simp [hlen], by simpa [hlen] using k1, by simpa [hlen] using k2, by simp, .inr ⟨bb, o, k4, k5, ?_⟩⟩
     simp only [bh, List.map_cons] at k6 ⊢
     obtain ⟨⟨u, q1, q2⟩, _⟩ := k6
     refine ⟨⟨u, hb _ _ _ _ q1, q2⟩, ?_⟩
     obtain ⟨base', cap', e1, _, _, _, e2⟩ := k8
     rcases e2 with e2 | ⟨b2, o2, e3, _, e4⟩
     . rw [e2]; simp [bh]
     . simp only [Value.slice.injEq] at e1
       obtain ⟨e1, _, _⟩ := e1
       rw [e3] at e1
       cases e1
       exact e4
theorem As {t : TypeId} {ts : List TypeId} {ds : List (DataW H)} {xs : List V} (h : hO ti (t :: ts) ds xs) : ∃ d x ds' xs', ds = d :: ds' ∧ xs = x :: xs' ∧ IsD ti t d x ∧ hO ti ts ds' xs' := by
 match ds, xs, h with
 | d :: ds, x :: xs, h => exact ⟨d, x, ds, xs, rfl, rfl, h.1, h.2⟩
 | [], [], h => exact h.elim
 | [], _ :: _, h => exact h.elim
 | _ :: _, [], h => exact h.elim
theorem At {ds : List (DataW H)} {xs : List V} (h : hO ti [] ds xs) : ds = [] ∧ xs = [] := by
 match ds, xs, h with
 | [], [], _ => exact ⟨rfl, rfl⟩
 | [], _ :: _, h => exact h.elim
 | _ :: _, [], h => exact h.elim
 | _ :: _, _ :: _, h => exact h.elim
end
theorem cI.of_wf {P : Program} {gl : Nat → Option (List V)} {f : FuncId} {xs : List V} {σ : List O} {x : V} {r : Option (List O)} (hc : hZ P f) (h : V.bR xs → cI P gl f xs σ x r) : cI P gl f xs σ x r :=
 ⟨hc, fun E st g w vs W hg hv => (h (kO hv)).2 E st g w vs W hg hv⟩
end Go.VG
