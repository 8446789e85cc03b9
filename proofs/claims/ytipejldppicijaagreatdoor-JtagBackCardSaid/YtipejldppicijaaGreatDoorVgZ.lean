/-
  A part of the proof.
-/
import Derived.Test.YtipejldppicijaaGreatDoorVgX
set_option linter.unusedSimpArgs false
set_option linter.unusedVariables false
namespace Go.VG
open Go

structure a8 (A : Prop) : Prop where
 h : A

theorem a9 {A B : Prop} (h : a8 A) (k : B) : A ∧ B := ⟨h.h, k⟩
theorem bu {b : Bool} {A B : Prop} (h1 : b = true → A) (h2 : b = false → B) : bo b A B := by cases b <;> simp_all [bo]
theorem al {p : Prop} {d : Decidable p} {A B : Prop} (h1 : p → A) (h2 : ¬ p → B) : bo (@decide p d) A B := bu (fun h => h1 (by simpa using h)) (fun h => h2 (by simpa using h))
theorem go7 {a b : Int} {A B : Prop} (h1 : a = b → A) (h2 : a ≠ b → B) : bo (a == b) A B := bu (fun h => h1 (by simpa using h)) (fun h => h2 (by simpa using h))
theorem go8 {a b : Int} {A B : Prop} (h1 : a ≠ b → A) (h2 : a = b → B) : bo (a != b) A B := bu (fun h => h1 (by simpa using h)) (fun h => h2 (by simpa using h))
theorem gk {a b : List UInt8} {A B : Prop} (h1 : a = b → A) (h2 : a ≠ b → B) : bo (a == b) A B := bu (fun h => h1 (by simpa using h)) (fun h => h2 (by simpa using h))
theorem aJ {b : Bool} {A B : Prop} (h : bo b B A) : bo (!b) A B := by cases b <;> exact h
theorem nH {b : Bool} {A : Prop} (h1 : a8 (b = true)) (h2 : A) : fZ b A := by
 obtain ⟨h⟩ := h1; subst h; exact h2
theorem mn {α : Type} {l : List α} {n : Nat} {K : α → Prop} (h1 : a8 (n < l.length)) (h2 : ∀ a, l[n]? = some a → K a) : dP l n K :=
 ⟨l[n]'h1.h, List.getElem?_eq_getElem h1.h, h2 _ (List.getElem?_eq_getElem h1.h)⟩
theorem iK {s : List UInt8} {n : Nat} {K : UInt8 → Prop} (h1 : a8 (n < s.length)) (h2 : (s.getD n 0).toNat < 256 → K (s.getD n 0)) : dP s n K :=
 mn h1 fun a ha => by rw [List.getD_eq_getElem?_getD, ha] at h2; exact h2 (UInt8.toNat_lt _)
theorem i5 {s : List UInt8} {n : Nat} {K : UInt8 → Prop} (h1 : a8 (n < s.length)) (h2 : (s.getD n 0).toNat < 256 → K (s.getD n 0)) : dP s (n : Int).toNat K := iK h1 h2
theorem vh {α γ : Type} {l : List α} {e : α → γ} {n : Nat} {K : γ → Prop} (h1 : a8 (n < l.length)) (h2 : ∀ a, l[n]? = some a → K (e a)) : dP (l.map e) n K := by
 refine mn ⟨by simpa using h1.h⟩ fun a ha => ?_
 simp only [List.getElem?_map, Option.map_eq_some_iff] at ha
 obtain ⟨b, hb, rfl⟩ := ha
 exact h2 b hb
theorem oZ (s : List UInt8) : bl s = s.map bv := by induction s <;> simp_all [bl]
theorem nI {s : List UInt8} {n : Nat} {K : V → Prop} (h1 : a8 (n < s.length)) (h2 : (s.getD n 0).toNat < 256 → K (.int .u8 (s.getD n 0).toNat)) : dP (bl s) n K := by
 rw [oZ]; exact vh h1 fun a ha => by rw [List.getD_eq_getElem?_getD, ha] at h2; exact h2 (UInt8.toNat_lt _)
theorem goB {s : List UInt8} {n : Nat} {K : V → Prop} (h1 : a8 (n < s.length)) (h2 : (s.getD n 0).toNat < 256 → K (.int .u8 (s.getD n 0).toNat)) : dP (bl s) (n : Int).toNat K := nI h1 h2
theorem iL {α γ : Type} [Inhabited α] {l : List α} {e : α → γ} {n : Nat} {K : γ → Prop} (h1 : a8 (n < l.length)) (h2 : K (e (l.getD n default))) : dP (l.map e) n K :=
 vh h1 fun a ha => by rw [List.getD_eq_getElem?_getD, ha] at h2; exact h2
theorem jd {α γ : Type} [Inhabited α] {l : List α} {e : α → γ} {n : Nat} {K : γ → Prop} (h1 : a8 (n < l.length)) (h2 : K (e (l.getD n default))) : dP (l.map e) (n : Int).toNat K := iL h1 h2
theorem cN (s t : List UInt8) : bl (s ++ t) = bl s ++ bl t := by simp [oZ]
theorem Eg (s : List UInt8) (n : Nat) : (bl s).drop n = bl (s.drop n) := by simp [oZ]
theorem je {s : List UInt8} {Q : List UInt8 → Prop} (h : Q s) : ∃ a, bl s = bl a ∧ Q a := ⟨s, rfl, h⟩
def byte (n : Int) : UInt8 := .ofNat n.toNat
theorem cE {n : Int} (h : 0 ≤ n ∧ n ≤ 255) : ((byte n).toNat : Int) = n := by
 simp only [byte, UInt8.toNat_ofNat']; omega
theorem m5 (b : UInt8) : byte b.toNat = b := by
 have := cE (n := b.toNat) (by have := b.toNat_lt; omega)
 exact UInt8.toNat_inj.1 (by omega)
theorem i6 {n : Int} {Q : List UInt8 → Prop} (h1 : a8 (0 ≤ n ∧ n ≤ 255)) (h : Q [byte n]) : ∃ a, [V.int .u8 n] = bl a ∧ Q a := ⟨_, by simp [bl, bv, cE h1.h], h⟩
theorem nJ {n m : Int} {Q : List UInt8 → Prop} (h1 : a8 (0 ≤ n ∧ n ≤ 255)) (h2 : a8 (0 ≤ m ∧ m ≤ 255)) (h : Q [byte n, byte m]) : ∃ a, [V.int .u8 n, V.int .u8 m] = bl a ∧ Q a := ⟨_, by simp [bl, bv, cE h1.h, cE h2.h], h⟩
theorem nK {n m k : Int} {Q : List UInt8 → Prop} (h1 : a8 (0 ≤ n ∧ n ≤ 255)) (h2 : a8 (0 ≤ m ∧ m ≤ 255)) (h3 : a8 (0 ≤ k ∧ k ≤ 255)) (h : Q [byte n, byte m, byte k]) : ∃ a, [V.int .u8 n, V.int .u8 m, V.int .u8 k] = bl a ∧ Q a :=
 ⟨_, by simp [bl, bv, cE h1.h, cE h2.h, cE h3.h], h⟩
theorem nL {n m k l : Int} {Q : List UInt8 → Prop} (h1 : a8 (0 ≤ n ∧ n ≤ 255)) (h2 : a8 (0 ≤ m ∧ m ≤ 255)) (h3 : a8 (0 ≤ k ∧ k ≤ 255)) (h4 : a8 (0 ≤ l ∧ l ≤ 255)) (h : Q [byte n, byte m, byte k, byte l]) :
   ∃ a, [V.int .u8 n, V.int .u8 m, V.int .u8 k, V.int .u8 l] = bl a ∧ Q a :=
 ⟨_, by simp [bl, bv, cE h1.h, cE h2.h, cE h3.h, cE h4.h], h⟩
theorem iZ (n : Int) : IntKind.u8.wrap n = n % 256 := rfl
theorem wu16 (n : Int) : IntKind.u16.wrap n = n % 65536 := rfl
theorem wu32 (n : Int) : IntKind.u32.wrap n = n % 4294967296 := rfl
theorem dN (n : Int) : IntKind.u64.wrap n = n % 18446744073709551616 := rfl
theorem bU (n : Int) : IntKind.i64.wrap n = (n + 9223372036854775808) % 18446744073709551616 - 9223372036854775808 := by
 show (if true && decide (n % 18446744073709551616 ≥ 9223372036854775808) then n % 18446744073709551616 - 18446744073709551616 else n % 18446744073709551616) = _
 simp only [Bool.true_and, decide_eq_true_eq]; split <;> omega
theorem wi32 (n : Int) : IntKind.i32.wrap n = (n + 2147483648) % 4294967296 - 2147483648 := by
 show (if true && decide (n % 4294967296 ≥ 2147483648) then n % 4294967296 - 4294967296 else n % 4294967296) = _
 simp only [Bool.true_and, decide_eq_true_eq]; split <;> omega
theorem wR : (∀ n, IntKind.u8.wrap n = n % 256) ∧ (∀ n, IntKind.u16.wrap n = n % 65536) ∧ (∀ n, IntKind.u32.wrap n = n % 4294967296) ∧ (∀ n, IntKind.u64.wrap n = n % 18446744073709551616) ∧
   (∀ n, IntKind.i32.wrap n = (n + 2147483648) % 4294967296 - 2147483648) ∧ (∀ n, IntKind.i64.wrap n = (n + 9223372036854775808) % 18446744073709551616 - 9223372036854775808) ∧
   (∀ {a b : Int}, 0 ≤ a → a.tdiv b = a / b) ∧ (∀ {a b : Int}, 0 ≤ a → a.tmod b = a % b) :=
 ⟨iZ, wu16, wu32, dN, wi32, bU, fun h => Int.tdiv_eq_ediv_of_nonneg h, fun h => Int.tmod_eq_emod_of_nonneg h⟩
theorem aW : (∀ {α : Type} {a b : List α}, (a ++ b).length = a.length + b.length) ∧ (∀ {α : Type} {x : α} {a : List α}, (x :: a).length = a.length + 1) ∧ (∀ {α : Type}, ([] : List α).length = 0) ∧ (∀ s, (bl s).length = s.length) ∧
   (∀ {α : Type} {i : Nat} {a : List α}, (a.take i).length = min i a.length) ∧ (∀ {α : Type} {i : Nat} {a : List α}, (a.drop i).length = a.length - i) :=
 ⟨List.length_append, List.length_cons, List.length_nil, bN, List.length_take, List.length_drop⟩
theorem rC {α : Type} {l : List α} {n : Nat} (d : α) (h : n < l.length) : (l.take (n + 1)).drop n = [l.getD n d] := by
 rw [List.drop_take, show n + 1 - n = 1 by omega]
 rw [List.getD_eq_getElem?_getD, List.getElem?_eq_getElem h]
 rw [List.drop_eq_getElem_cons h]; rfl
theorem xT {s : List UInt8} {i : Nat} (h : i < s.length) : s.take (i + 1) = s.take i ++ [s.getD i 0] := by
 rw [List.take_add_one, List.getD_eq_getElem?_getD, List.getElem?_eq_getElem h]; rfl
theorem En {α : Type} {x y : α} {xs ys : List α} (h : x = y) (k : xs = ys) : x :: xs = y :: ys := by rw [h, k]
theorem l4 (k : IntKind) (n b : Nat) : bn k n b = ((n / 2 ^ (min b k.bits) : Nat) : Int) := by
 unfold bn
 rw [show ((b : Int)).toNat = b from rfl, Int.fdiv_eq_ediv_of_nonneg _ (by exact_mod_cast Nat.zero_le _)]
 simp
theorem vd (n : Nat) (h : n < 256) : jI .u8 n 15 = ((n % 16 : Nat) : Int) := by
 show IntKind.u8.wrap ((BitVec.ofInt 8 (n : Int) &&& BitVec.ofInt 8 15).toNat : Int) = _
 rw [iZ, BitVec.ofInt_natCast, show BitVec.ofInt 8 15 = BitVec.ofNat 8 15 from rfl, BitVec.toNat_and, BitVec.toNat_ofNat, BitVec.toNat_ofNat, Nat.mod_eq_of_lt h,
  show n &&& 15 % 2 ^ 8 = n % 16 from Nat.and_two_pow_sub_one_eq_mod n 4]
 omega
theorem Cm {x : V} : ∀ {cs : List V} {n : Nat}, n < cs.length → fW cs n [x] = some (cs.set n x)
 | [], n, h => by simp at h
 | y :: cs, 0, _ => by simp [fW]
 | y :: cs, n + 1, h => by simp only [fW]; rw [Cm (cs := cs) (by simpa using h)]; simp
theorem goN {cs : List V} {n : Nat} {x : V} {K : List V → Prop} (h1 : a8 (n < cs.length)) (h2 : K (cs.set n x)) : dZ (fW cs n [x]) K := by rw [Cm h1.h]; exact h2
theorem D7 : ∀ {cs : List V} {m : Nat}, m ≤ cs.length → fA cs m = some (cs.take m)
 | cs, 0, _ => by cases cs <;> simp [fA]
 | [], m + 1, h => by simp at h
 | c :: cs, m + 1, h => by simp only [fA]; rw [D7 (cs := cs) (by simpa using h)]; simp
theorem nM {cs : List V} {a m : Nat} {K : List V → Prop} (h1 : a8 (a + m ≤ cs.length)) (h2 : K ((cs.drop a).take m)) : dZ (fA (gF cs a) m) K := by
 rw [rI, D7 (by simp; have := h1.h; omega)]; exact h2
theorem nN {l : List V} {K : List V → Prop} (h : K l) : bQ l K := by rw [hJ]; exact h
theorem L1 (s : List UInt8) : V.eI (bl s) = true := by induction s <;> simp_all [bl, bv, V.eI, V.pure]
theorem KV (s : List UInt8) : cS (bl s) = true := by induction s <;> simp_all [bl, bv, cS, V.one]
theorem go1 {P : Nat × Int → Prop} {o : Option (Nat × Int)} {Q : Prop} (h : ∀ j q, o = some (j, q) → P (j, q)) (k : o = none → Q) : (∀ a, o = some a → P a) ∧ (o = none → Q) := ⟨fun ⟨j, q⟩ e => h j q e, k⟩
theorem go2 {bs bs' : List Nat} {ck ck' : Nat} {left : List Nat} {A : Prop} {B : Nat → Prop} (h0 : bs' = bs ∧ ck' = ck) (h1 : left = [] → A) (h2 : ∀ j, j ∈ left → B j) :
 (bs' = bs ∧ ck' = ck) ∧ (left = [] → A) ∧ (∀ j, j ∈ left → B j) := ⟨h0, h1, h2⟩
theorem Mg (s : List UInt8) (n : Nat) : V.jo n (bl s) = true := by induction s <;> simp_all [bl, bv, V.jo, V.dW]
theorem Eh (s : List UInt8) (n : Nat) (b : UInt8) : (bl s).set n (.int .u8 b.toNat) = bl (s.set n b) := by rw [oZ, oZ, List.map_set]; rfl
def Wk (x y : V) : Prop := ∀ (st : St) (g : aj) (n : Nat) (v : Value), VR st g x n v → VR st g y n v
def aq (xs ys : List V) : Prop := ∀ (st : St) (g : aj) (n : Nat) (vs : List Value), av st g xs n vs → av st g ys n vs
theorem Wk.refl (x : V) : Wk x x := fun _ _ _ _ h => h
theorem aq.nil : aq [] [] := fun _ _ _ _ h => h
theorem aq.cons {x y : V} {xs ys : List V} (h : Wk x y) (hs : aq xs ys) : aq (x :: xs) (y :: ys) := fun st g n vs k => by
 simp only [av] at k ⊢
 obtain ⟨u, us, rfl, h1, h2⟩ := k
 exact ⟨u, us, rfl, h _ _ _ _ h1, hs _ _ _ _ h2⟩
theorem aq.refl (xs : List V) : aq xs xs := fun _ _ _ _ h => h
theorem Wk.agg {xs ys : List V} (h : aq xs ys) : Wk (.agg xs) (.agg ys) := fun st g n v k => by
 simp only [VR] at k ⊢
 obtain ⟨vs, rfl, k⟩ := k
 exact ⟨vs, rfl, h _ _ _ _ k⟩
theorem Wk.tuple {xs ys : List V} (h : aq xs ys) : Wk (.tuple xs) (.tuple ys) := fun st g n v k => by
 simp only [VR] at k ⊢
 obtain ⟨vs, rfl, k⟩ := k
 exact ⟨vs, rfl, h _ _ _ _ k⟩
theorem Wk.nil {c d : Bool} {sz sz' : Nat} (h : c = true ∨ d = false) : Wk (.list c sz []) (.list d sz' []) := fun st g n v k => by
 simp only [VR] at k ⊢
 obtain ⟨base, cap, rfl, h1, h2, h3, _⟩ := k
 refine ⟨base, cap, rfl, h1, h2, fun hd => ?_, .inl trivial⟩
 rcases h with h | h
 . exact h3 h
 . rw [h] at hd; cases hd
theorem Wk.list {c d : Bool} {sz : Nat} {l m : List V} (hcd : c = true ∨ d = false) (hl : m.length = l.length) (h : ∀ (i : Nat) x y, l[i]? = some x → m[i]? = some y → Wk x y) : Wk (.list c sz l) (.list d sz m) := fun st g n v k => by
 simp only [VR] at k ⊢
 obtain ⟨base, cap, rfl, h1, h2, h3, h4⟩ := k
 refine ⟨base, cap, by rw [hl], by omega, by omega, fun hd => ?_, ?_⟩
 . rcases hcd with hc | hc
   . rw [hl]; exact h3 hc
   . rw [hc] at hd; cases hd
 . rcases h4 with h4 | ⟨b, o, h5, h6, h7⟩
   . left; subst h4; exact List.eq_nil_of_length_eq_zero (by simpa using hl)
   . right
     refine ⟨b, o, h5, h6, ?_⟩
     rw [ew] at h7 ⊢
     intro i y hy
     have hi : i < l.length := by
      rcases Nat.lt_or_ge i m.length with h' | h'
      . omega
      . simp [List.getElem?_eq_none h'] at hy
     obtain ⟨u, q1, q2⟩ := h7 i l[i] (List.getElem?_eq_getElem hi)
     exact ⟨u, h i _ _ (List.getElem?_eq_getElem hi) hy _ _ _ _ q1, q2⟩

theorem cW.args {P : Program} {gl : Nat → Option (List V)} {f : FuncId} {xs ys : List V} {σ : List O} {x : V} {r : Option (List O)} (h : cW P gl f ys σ x r) (k : aq xs ys) : cW P gl f xs σ x r :=
 ⟨h.1, fun E st g w vs W hg hv => h.2 E st g w vs W hg (k _ _ _ _ hv)⟩
theorem cW.res {P : Program} {gl : Nat → Option (List V)} {f : FuncId} {xs : List V} {σ : List O} {x y : V} {r : Option (List O)} (h : cW P gl f xs σ x r) (k : Wk x y) : cW P gl f xs σ y r :=
 ⟨h.1, fun E st g w vs W hg hv => (h.2 E st g w vs W hg hv).mono fun _ _ ⟨v, st', g', h1, h2, h3, h4⟩ => ⟨v, st', g', h1, h2, k _ _ _ _ h3, h4⟩⟩

theorem cW.nil {P : Program} {gl : Nat → Option (List V)} {f : FuncId} {xs : List V} {σ σ' : List O} {x : V} (k z sz : Nat) (hx : xs[k]? = some (.list true z []))
   (h : cW P gl f (xs.set k (.buf σ.length)) (σ ++ [.buf (sz + 1) 0 []]) x (some σ')) : cW P gl f xs σ x (some σ') := by
 refine ⟨h.1, fun E st g w vs W hg hv => ?_⟩
 obtain ⟨v, hv1, hv2⟩ := lX hv hx
 simp only [VR] at hv2
 obtain ⟨base, cap, rfl, _, _, hcap, _⟩ := hv2
 obtain rfl : cap = 0 := by simpa using hcap trivial
 have W2 := W.ghost (base := base) (sz := sz + 1) (Nat.succ_pos _)
 have hlen : (σ ++ [O.buf (sz + 1) 0 []]).length = σ.length + 1 := by simp
 have hl := dA hv
 refine (h.2 E st _ w vs W2 hg ?_).mono fun e w' ⟨v, st', g', h1, h2, h3, h4, h5, h6⟩ => ⟨v, st', g', h1, h2, h3, h4, ?_, fun i o ho hor => ?_⟩
 . rw [hlen, fE]
   refine ⟨by simpa using hl, fun i c v hc hvi => ?_⟩
   by_cases e : i = k
   . subst e
     rw [List.getElem?_set_self (by rcases Nat.lt_or_ge i xs.length with h' | h'; exact h'; simp [List.getElem?_eq_none h'] at hx)] at hc
     cases hc
     rw [hv1] at hvi; cases hvi
     simp only [VR]
     exact ⟨Nat.lt_succ_self _, by rw [cI]; simp⟩
   . rw [List.getElem?_set_ne (Ne.symm e)] at hc
     exact oP ((fE.1 hv).2 i c v hc hvi)
 . simp only [Option.getD_some] at h5 ⊢
   rw [hlen] at h5; omega
 . have hi : i < σ.length := by
     rcases Nat.lt_or_ge i σ.length with h' | h'
     . exact h'
     . simp [List.getElem?_eq_none h'] at ho
   have := h6 i o (by rw [List.getElem?_append_left hi]; exact ho) hor
   rw [this, bR (Nat.ne_of_lt hi)]

def Sm : Type := List V → List O → Option (Prop × V × Option (List O))
def rl (P : Program) (gl : Nat → Option (List V)) (f : FuncId) (s : Sm) : Prop := ∀ args sg pre x r, s args sg = some (pre, x, r) → pre → cW P gl f args sg x r
def sm0 : Sm := fun _ _ => none
theorem Mr {P : Program} {gl : Nat → Option (List V)} {f : FuncId} : rl P gl f sm0 := fun _ _ _ _ _ h => by cases h
theorem aV {a b : List UInt8} (h : a = b) : V.str a = V.str b := by rw [h]
theorem au {k : IntKind} {a b : Int} (h : a = b) : V.int k a = V.int k b := by rw [h]
theorem bX {a b : Bool} (h : a = b) : V.bool a = V.bool b := by rw [h]
theorem aE {n m : Nat} {a b : List V} (h : a = b) : O.buf n m a = O.buf n m b := by rw [h]
theorem cw {a b : List V} (h : a = b) : O.cells a = O.cells b := by rw [h]
theorem cJ {c : Bool} {n : Nat} {a b : List V} (h : a = b) : V.list c n a = V.list c n b := by rw [h]
theorem cK {a b : List V} (h : a = b) : V.agg a = V.agg b := by rw [h]
theorem bZ {a b : List V} (h : a = b) : V.tuple a = V.tuple b := by rw [h]
theorem aM {α : Type} {x y : α} {xs ys : List α} (h : x = y) (k : xs = ys) : x :: xs = y :: ys := by rw [h, k]
theorem cZ (s : List UInt8) (n : Nat) : V.jo n (bl s) = true := Mg s n
theorem goQ {p c A B : Prop} (h : a8 p) (h1 : c → A) (h2 : ¬ c → B) : ((p ∧ c) ∨ (p ∧ ¬ c)) ∧ ((p ∧ c) → A) ∧ ((p ∧ ¬ c) → B) := by
 refine ⟨?_, fun q => h1 q.2, fun q => h2 q.2⟩
 by_cases hc : c
 . exact .inl ⟨h.h, hc⟩
 . exact .inr ⟨h.h, hc⟩
class lV (p : Prop) : Prop where
 y : True
instance {a b c d} : lV (bd a b c d) := ⟨trivial⟩
instance {a b c d e} : lV (lU a b c d e) := ⟨trivial⟩
instance {a b c d e f} : lV (a7 a b c d e f) := ⟨trivial⟩
instance {a b c} : lV (PanP a b c) := ⟨trivial⟩
instance : lV False := ⟨trivial⟩
instance {α} {p : α → Prop} : lV (∃ x, p x) := ⟨trivial⟩
theorem stay {p : Prop} [lV p] (h : p) : p := h
theorem ab {a b : Prop} (h : a) (k : b) : a ∧ b := ⟨h, k⟩
end Go.VG
namespace Go.VG
open Go
section
variable {H : Type} {ti : TypeId → TI} {f : Nat} {t : TypeId} {d : DataW H} {xs : List V}
theorem uC {k : IntKind} (hk : (ti t).k = .int k) (h : aS ti f t d = some xs) : ∃ n, xs = [.int k n] := by
 cases f with
 | zero => simp [aS] at h
 | succ f =>
   unfold aS at h
   rw [hk] at h
   split at h <;> simp_all
   exact ⟨_, h.symm⟩
theorem yE (hk : (ti t).k = .string) (h : aS ti f t d = some xs) : ∃ s, xs = [.str s] := by
 cases f with
 | zero => simp [aS] at h
 | succ f =>
   unfold aS at h
   rw [hk] at h
   split at h <;> simp_all
   exact ⟨_, h.symm⟩
theorem uD {e : TypeId} (hk : (ti t).k = .slice e) (h : aS ti f t d = some xs) : xs = [.list true (ti e).size []] ∨ ∃ f' ds l, f = f' + 1 ∧ (ds : List (DataW H)).mapM (fun x => (aS ti f' e x).bind (eO (ti e).k.isAgg)) = some l ∧ xs = [.list false (ti e).size l] := by
 cases f with
 | zero => simp [aS] at h
 | succ f =>
   unfold aS at h
   rw [hk] at h
   split at h <;> simp_all
   . rename_i h1
     obtain ⟨l, h3, h4⟩ := h
     exact .inr ⟨_, l, h3, h4.symm⟩
theorem yF {fs : List (Nat × TypeId)} (hk : (ti t).k = .struct fs) (h : aS ti f t d = some xs) : ∃ f' parts xss, f = f' + 1 ∧ (parts : List (DataW H)).length = fs.length ∧ (fs.zip parts).mapM (fun p => aS ti f' p.1.2 p.2) = some xss ∧ xs = xss.flatten := by
 cases f with
 | zero => simp [aS] at h
 | succ f =>
   unfold aS at h
   rw [hk] at h
   cases d <;> simp only at h <;> try (cases h; done)
   rename_i parts
   cases hb : Nat.beq fs.length parts.length with
   | false => rw [hb] at h; cases h
   | true =>
     rw [hb] at h
     simp only [cond_true, Option.map_eq_some_iff] at h
     obtain ⟨xss, h2, h3⟩ := h
     exact ⟨f, parts, xss, rfl, (Nat.eq_of_beq_eq_true hb).symm, h2, h3.symm⟩
theorem jO {α β : Type} {g : α → Option β} {x : α} {l : List α} {r : List β} (h : (x :: l).mapM g = some r) : ∃ y ys, g x = some y ∧ l.mapM g = some ys ∧ r = y :: ys := by
 rw [List.mapM_cons] at h
 cases hx : g x with
 | none => rw [hx] at h; simp at h
 | some y =>
   rw [hx] at h
   cases hl : l.mapM g with
   | none => rw [hl] at h; simp at h
   | some ys =>
     rw [hl] at h
     simp at h
     exact ⟨y, ys, rfl, rfl, h.symm⟩
theorem sf {α β : Type} {g : α → Option V} {enc : β → V} {sz : Nat} : ∀ {ds : List α} {l : List V}, ds.mapM g = some l → (∀ d x, g d = some x → ∃ b, Wk x (enc b)) → ∃ bs : List β, Wk (.list false sz l) (.list false sz (bs.map enc)) ∧ bs.length = ds.length
 | [], l, h, _ => by
   simp at h; subst h
   exact ⟨[], Wk.refl _, rfl⟩
 | d :: ds, l, h, hd => by
   obtain ⟨y, ys, h1, h2, rfl⟩ := jO h
   obtain ⟨b, hb⟩ := hd _ _ h1
   obtain ⟨bs, hbs, hl⟩ := sf (sz := sz) h2 hd
   have hlen : ys.length = bs.length := by rw [hl]; exact mapM_some_length h2
   refine ⟨b :: bs, ?_, by simp [hl]⟩
   intro st gg n v k
   simp only [VR] at k
   obtain ⟨base, cap, rfl, k1, k2, _, k3⟩ := k
   rcases k3 with k3 | ⟨bb, o, k4, k5, k6⟩
   . cases k3
   . have k7 : VR st gg (.list false sz ys) n (.slice (some ⟨bb, o + sz, none⟩) ys.length ys.length) := by
       simp only [VR]
       simp only [bz] at k6
       refine ⟨_, _, rfl, Nat.le_refl _, by simp at k2; omega, by simp, ?_⟩
       cases ys with
       | nil => exact .inl rfl
       | cons _ _ => exact .inr ⟨bb, o + sz, rfl, k5, k6.2⟩
     have k8 := hbs st gg n _ k7
     simp only [VR] at k8 ⊢
     refine ⟨base, cap, by simp [hlen], by simpa [hlen] using k1, by simpa [hlen] using k2, by simp, .inr ⟨bb, o, k4, k5, ?_⟩⟩
     simp only [bz, List.map_cons] at k6 ⊢
     obtain ⟨⟨u, q1, q2⟩, _⟩ := k6
     refine ⟨⟨u, hb _ _ _ _ q1, q2⟩, ?_⟩
     obtain ⟨base', cap', e1, _, _, _, e2⟩ := k8
     rcases e2 with e2 | ⟨b2, o2, e3, _, e4⟩
     . rw [e2]; simp [bz]
     . simp only [Value.slice.injEq] at e1
       obtain ⟨e1, _, _⟩ := e1
       rw [e3] at e1
       cases e1
       exact e4
theorem DJ {t : TypeId} {ts : List TypeId} {ds : List (DataW H)} {xs : List V} (h : j0 ti (t :: ts) ds xs) : ∃ d x ds' xs', ds = d :: ds' ∧ xs = x :: xs' ∧ IsD ti t d x ∧ j0 ti ts ds' xs' := by
 match ds, xs, h with
 | d :: ds, x :: xs, h => exact ⟨d, x, ds, xs, rfl, rfl, h.1, h.2⟩
 | [], [], h => exact h.elim
 | [], _ :: _, h => exact h.elim
 | _ :: _, [], h => exact h.elim
theorem DK {ds : List (DataW H)} {xs : List V} (h : j0 ti [] ds xs) : ds = [] ∧ xs = [] := by
 match ds, xs, h with
 | [], [], _ => exact ⟨rfl, rfl⟩
 | [], _ :: _, h => exact h.elim
 | _ :: _, [], h => exact h.elim
 | _ :: _, _ :: _, h => exact h.elim
end
theorem cW.of_wf {P : Program} {gl : Nat → Option (List V)} {f : FuncId} {xs : List V} {σ : List O} {x : V} {r : Option (List O)} (hc : j4 P f) (h : V.cp xs → cW P gl f xs σ x r) : cW P gl f xs σ x r :=
 ⟨hc, fun E st g w vs W hg hv => (h (lZ hv)).2 E st g w vs W hg hv⟩
end Go.VG
