/-
  Small laws with which a function's conditions are driven, and what is known of a function turned a little.
-/
import Derived.Test.YtkkfdkfopdjomaaDoorVgX
set_option linter.unusedSimpArgs false
set_option linter.unusedVariables false
namespace Go.VG
open Go

/-- something that is to be shown by itself -/
structure Side (A : Prop) : Prop where
  h : A

theorem go3 {A B : Prop} (h : Side A) (k : B) : A ∧ B := ⟨h.h, k⟩
theorem goA {b : Bool} {A B : Prop} (h1 : b = true → A) (h2 : b = false → B) : brn b A B := by cases b <;> simp_all [brn]
theorem go6 {p : Prop} {d : Decidable p} {A B : Prop} (h1 : p → A) (h2 : ¬ p → B) : brn (@decide p d) A B := goA (fun h => h1 (by simpa using h)) (fun h => h2 (by simpa using h))
theorem go7 {a b : Int} {A B : Prop} (h1 : a = b → A) (h2 : a ≠ b → B) : brn (a == b) A B := goA (fun h => h1 (by simpa using h)) (fun h => h2 (by simpa using h))
theorem go8 {a b : Int} {A B : Prop} (h1 : a ≠ b → A) (h2 : a = b → B) : brn (a != b) A B := goA (fun h => h1 (by simpa using h)) (fun h => h2 (by simpa using h))
theorem go9 {a b : List UInt8} {A B : Prop} (h1 : a = b → A) (h2 : a ≠ b → B) : brn (a == b) A B := goA (fun h => h1 (by simpa using h)) (fun h => h2 (by simpa using h))
theorem go5 {b : Bool} {A B : Prop} (h : brn b B A) : brn (!b) A B := by cases b <;> exact h
theorem go4 {b : Bool} {A : Prop} (h1 : Side (b = true)) (h2 : A) : whenK b A := by
  obtain ⟨h⟩ := h1; subst h; exact h2
theorem optK_i {α : Type} {o : Option α} {K : α → Prop} (h1 : Side (∃ a, o = some a)) (h2 : ∀ a, o = some a → K a) : optK o K := by
  obtain ⟨⟨a, ha⟩⟩ := h1; subst ha; exact h2 a rfl
theorem goH {α : Type} {l : List α} {n : Nat} {K : α → Prop} (h1 : Side (n < l.length)) (h2 : ∀ a, l[n]? = some a → K a) : IdxK l n K :=
  ⟨l[n]'h1.h, List.getElem?_eq_getElem h1.h, h2 _ (List.getElem?_eq_getElem h1.h)⟩
theorem goE {s : List UInt8} {n : Nat} {K : UInt8 → Prop} (h1 : Side (n < s.length)) (h2 : (s.getD n 0).toNat < 256 → K (s.getD n 0)) : IdxK s n K :=
  goH h1 fun a ha => by rw [List.getD_eq_getElem?_getD, ha] at h2; exact h2 (UInt8.toNat_lt _)
theorem goD {s : List UInt8} {n : Nat} {K : UInt8 → Prop} (h1 : Side (n < s.length)) (h2 : (s.getD n 0).toNat < 256 → K (s.getD n 0)) : IdxK s (n : Int).toNat K := goE h1 h2
theorem idx_map {α γ : Type} {l : List α} {e : α → γ} {n : Nat} {K : γ → Prop} (h1 : Side (n < l.length)) (h2 : ∀ a, l[n]? = some a → K (e a)) : IdxK (l.map e) n K := by
  refine goH ⟨by simpa using h1.h⟩ fun a ha => ?_
  simp only [List.getElem?_map, Option.map_eq_some_iff] at ha
  obtain ⟨b, hb, rfl⟩ := ha
  exact h2 b hb
theorem bl_map (s : List UInt8) : bl s = s.map bv := by induction s <;> simp_all [bl]
theorem goC {s : List UInt8} {n : Nat} {K : V → Prop} (h1 : Side (n < s.length)) (h2 : (s.getD n 0).toNat < 256 → K (.int .u8 (s.getD n 0).toNat)) : IdxK (bl s) n K := by
  rw [bl_map]; exact idx_map h1 fun a ha => by rw [List.getD_eq_getElem?_getD, ha] at h2; exact h2 (UInt8.toNat_lt _)
theorem goB {s : List UInt8} {n : Nat} {K : V → Prop} (h1 : Side (n < s.length)) (h2 : (s.getD n 0).toNat < 256 → K (.int .u8 (s.getD n 0).toNat)) : IdxK (bl s) (n : Int).toNat K := goC h1 h2
theorem goG {α γ : Type} [Inhabited α] {l : List α} {e : α → γ} {n : Nat} {K : γ → Prop} (h1 : Side (n < l.length)) (h2 : K (e (l.getD n default))) : IdxK (l.map e) n K :=
  idx_map h1 fun a ha => by rw [List.getD_eq_getElem?_getD, ha] at h2; exact h2
theorem goF {α γ : Type} [Inhabited α] {l : List α} {e : α → γ} {n : Nat} {K : γ → Prop} (h1 : Side (n < l.length)) (h2 : K (e (l.getD n default))) : IdxK (l.map e) (n : Int).toNat K := goG h1 h2
theorem bl_append (s t : List UInt8) : bl (s ++ t) = bl s ++ bl t := by simp [bl_map]
theorem bl_take (s : List UInt8) (n : Nat) : (bl s).take n = bl (s.take n) := by simp [bl_map]
theorem bl_drop (s : List UInt8) (n : Nat) : (bl s).drop n = bl (s.drop n) := by simp [bl_map]
theorem bl_inj {s t : List UInt8} (h : bl s = bl t) : s = t := by
  rw [bl_map, bl_map] at h
  exact List.map_inj_right (fun a b h => by
    simp only [bv, V.int.injEq, true_and] at h
    exact UInt8.toNat_inj.1 (by omega)) |>.1 h
theorem goI {s : List UInt8} {Q : List UInt8 → Prop} (h : Q s) : ∃ a, bl s = bl a ∧ Q a := ⟨s, rfl, h⟩
def byte (n : Int) : UInt8 := .ofNat n.toNat
theorem byte_toNat {n : Int} (h : 0 ≤ n ∧ n ≤ 255) : ((byte n).toNat : Int) = n := by
  simp only [byte, UInt8.toNat_ofNat']; omega
theorem byte_of (b : UInt8) : byte b.toNat = b := by
  have := byte_toNat (n := b.toNat) (by have := b.toNat_lt; omega)
  exact UInt8.toNat_inj.1 (by omega)
theorem goJ {n : Int} {Q : List UInt8 → Prop} (h1 : Side (0 ≤ n ∧ n ≤ 255)) (h : Q [byte n]) : ∃ a, [V.int .u8 n] = bl a ∧ Q a := ⟨_, by simp [bl, bv, byte_toNat h1.h], h⟩
theorem goK {n m : Int} {Q : List UInt8 → Prop} (h1 : Side (0 ≤ n ∧ n ≤ 255)) (h2 : Side (0 ≤ m ∧ m ≤ 255)) (h : Q [byte n, byte m]) : ∃ a, [V.int .u8 n, V.int .u8 m] = bl a ∧ Q a := ⟨_, by simp [bl, bv, byte_toNat h1.h, byte_toNat h2.h], h⟩
theorem goL {n m k : Int} {Q : List UInt8 → Prop} (h1 : Side (0 ≤ n ∧ n ≤ 255)) (h2 : Side (0 ≤ m ∧ m ≤ 255)) (h3 : Side (0 ≤ k ∧ k ≤ 255)) (h : Q [byte n, byte m, byte k]) : ∃ a, [V.int .u8 n, V.int .u8 m, V.int .u8 k] = bl a ∧ Q a :=
  ⟨_, by simp [bl, bv, byte_toNat h1.h, byte_toNat h2.h, byte_toNat h3.h], h⟩
theorem goM {n m k l : Int} {Q : List UInt8 → Prop} (h1 : Side (0 ≤ n ∧ n ≤ 255)) (h2 : Side (0 ≤ m ∧ m ≤ 255)) (h3 : Side (0 ≤ k ∧ k ≤ 255)) (h4 : Side (0 ≤ l ∧ l ≤ 255)) (h : Q [byte n, byte m, byte k, byte l]) :
    ∃ a, [V.int .u8 n, V.int .u8 m, V.int .u8 k, V.int .u8 l] = bl a ∧ Q a :=
  ⟨_, by simp [bl, bv, byte_toNat h1.h, byte_toNat h2.h, byte_toNat h3.h, byte_toNat h4.h], h⟩
theorem forceD_i {x : V} {K : V → Prop} (h : K x) : forceD x K := by rw [forceD_eq]; exact h
theorem force_i {α : Type} {x : V} {K : V → Tr α} {L : α → Prop} (h : K x L) : force x K L := by rw [force_eq]; exact h

/-! numbers that fit are not turned -/
theorem wu8 (n : Int) : IntKind.u8.wrap n = n % 256 := rfl
theorem wu16 (n : Int) : IntKind.u16.wrap n = n % 65536 := rfl
theorem wu32 (n : Int) : IntKind.u32.wrap n = n % 4294967296 := rfl
theorem wu64 (n : Int) : IntKind.u64.wrap n = n % 18446744073709551616 := rfl
theorem wi64 (n : Int) : IntKind.i64.wrap n = (n + 9223372036854775808) % 18446744073709551616 - 9223372036854775808 := by
  show (if true && decide (n % 18446744073709551616 ≥ 9223372036854775808) then n % 18446744073709551616 - 18446744073709551616 else n % 18446744073709551616) = _
  simp only [Bool.true_and, decide_eq_true_eq]; split <;> omega
theorem wi32 (n : Int) : IntKind.i32.wrap n = (n + 2147483648) % 4294967296 - 2147483648 := by
  show (if true && decide (n % 4294967296 ≥ 2147483648) then n % 4294967296 - 4294967296 else n % 4294967296) = _
  simp only [Bool.true_and, decide_eq_true_eq]; split <;> omega
/-- the laws of wrapping, as one -/
theorem wR : (∀ n, IntKind.u8.wrap n = n % 256) ∧ (∀ n, IntKind.u16.wrap n = n % 65536) ∧ (∀ n, IntKind.u32.wrap n = n % 4294967296) ∧ (∀ n, IntKind.u64.wrap n = n % 18446744073709551616) ∧
    (∀ n, IntKind.i32.wrap n = (n + 2147483648) % 4294967296 - 2147483648) ∧ (∀ n, IntKind.i64.wrap n = (n + 9223372036854775808) % 18446744073709551616 - 9223372036854775808) ∧
    (∀ {a b : Int}, 0 ≤ a → a.tdiv b = a / b) ∧ (∀ {a b : Int}, 0 ≤ a → a.tmod b = a % b) :=
  ⟨wu8, wu16, wu32, wu64, wi32, wi64, fun h => Int.tdiv_eq_ediv_of_nonneg h, fun h => Int.tmod_eq_emod_of_nonneg h⟩
theorem lnS : (∀ {α : Type} {a b : List α}, (a ++ b).length = a.length + b.length) ∧ (∀ {α : Type} {x : α} {a : List α}, (x :: a).length = a.length + 1) ∧ (∀ {α : Type}, ([] : List α).length = 0) ∧ (∀ s, (bl s).length = s.length) ∧
    (∀ {α : Type} {i : Nat} {a : List α}, (a.take i).length = min i a.length) ∧ (∀ {α : Type} {i : Nat} {a : List α}, (a.drop i).length = a.length - i) :=
  ⟨List.length_append, List.length_cons, List.length_nil, bl_length, List.length_take, List.length_drop⟩
theorem td_nat (a b : Nat) : (a : Int).tdiv b = ((a / b : Nat) : Int) := rfl
theorem tm_nat (a b : Nat) : (a : Int).tmod b = ((a % b : Nat) : Int) := rfl
theorem td_lit {a : Int} {b : Nat} (h : 0 ≤ a) : a.tdiv b = a / b := Int.tdiv_eq_ediv_of_nonneg h
theorem tm_lit {a : Int} {b : Nat} (h : 0 ≤ a) : a.tmod b = a % b := Int.tmod_eq_emod_of_nonneg h
theorem cut1 {α : Type} {l : List α} {n : Nat} (d : α) (h : n < l.length) : (l.take (n + 1)).drop n = [l.getD n d] := by
  rw [List.drop_take, show n + 1 - n = 1 by omega]
  rw [List.getD_eq_getElem?_getD, List.getElem?_eq_getElem h]
  rw [List.drop_eq_getElem_cons h]; rfl
theorem take_next {s : List UInt8} {i : Nat} (h : i < s.length) : s.take (i + 1) = s.take i ++ [s.getD i 0] := by
  rw [List.take_add_one, List.getD_eq_getElem?_getD, List.getElem?_eq_getElem h]; rfl
theorem cons_eq {α : Type} {x y : α} {xs ys : List α} (h : x = y) (k : xs = ys) : x :: xs = y :: ys := by rw [h, k]
theorem iShr_nat (k : IntKind) (n b : Nat) : iShr k n b = ((n / 2 ^ (min b k.bits) : Nat) : Int) := by
  unfold iShr
  rw [show ((b : Int)).toNat = b from rfl, Int.fdiv_eq_ediv_of_nonneg _ (by exact_mod_cast Nat.zero_le _)]
  simp
theorem iAnd_u8_15 (n : Nat) (h : n < 256) : iAnd .u8 n 15 = ((n % 16 : Nat) : Int) := by
  show IntKind.u8.wrap ((BitVec.ofInt 8 (n : Int) &&& BitVec.ofInt 8 15).toNat : Int) = _
  rw [wu8, BitVec.ofInt_natCast, show BitVec.ofInt 8 15 = BitVec.ofNat 8 15 from rfl, BitVec.toNat_and, BitVec.toNat_ofNat, BitVec.toNat_ofNat, Nat.mod_eq_of_lt h,
    show n &&& 15 % 2 ^ 8 = n % 16 from Nat.and_two_pow_sub_one_eq_mod n 4]
  omega
/-! cells that are told by a list -/
theorem setL_one {x : V} : ∀ {cs : List V} {n : Nat}, n < cs.length → setL cs n [x] = some (cs.set n x)
  | [], n, h => by simp at h
  | y :: cs, 0, _ => by simp [setL]
  | y :: cs, n + 1, h => by simp only [setL]; rw [setL_one (cs := cs) (by simpa using h)]; simp
theorem goN {cs : List V} {n : Nat} {x : V} {K : List V → Prop} (h1 : Side (n < cs.length)) (h2 : K (cs.set n x)) : optK (setL cs n [x]) K := by rw [setL_one h1.h]; exact h2
theorem takeL_some : ∀ {cs : List V} {m : Nat}, m ≤ cs.length → takeL cs m = some (cs.take m)
  | cs, 0, _ => by cases cs <;> simp [takeL]
  | [], m + 1, h => by simp at h
  | c :: cs, m + 1, h => by simp only [takeL]; rw [takeL_some (cs := cs) (by simpa using h)]; simp
theorem goO {cs : List V} {a m : Nat} {K : List V → Prop} (h1 : Side (a + m ≤ cs.length)) (h2 : K ((cs.drop a).take m)) : optK (takeL (dropL cs a) m) K := by
  rw [dropL_eq, takeL_some (by simp; have := h1.h; omega)]; exact h2
theorem goP {l : List V} {K : List V → Prop} (h : K l) : forceDs l K := by rw [forceDs_eq]; exact h
theorem pureL_append (xs ys : List V) : V.pureL (xs ++ ys) = (V.pureL xs && V.pureL ys) := by
  induction xs with
  | nil => simp [V.pureL]
  | cons x xs ih => simp [V.pureL, ih, Bool.and_assoc]
theorem oneL_append' (xs ys : List V) : oneL (xs ++ ys) = (oneL xs && oneL ys) := by
  induction xs with
  | nil => simp [oneL]
  | cons x xs ih => simp [oneL, ih, Bool.and_assoc]
theorem pureL_bl (s : List UInt8) : V.pureL (bl s) = true := by induction s <;> simp_all [bl, bv, V.pureL, V.pure]
theorem oneL_bl (s : List UInt8) : oneL (bl s) = true := by induction s <;> simp_all [bl, bv, oneL, V.one]
theorem pureL_rep (n : Nat) (x : V) (h : x.pure = true) : V.pureL (List.replicate n x) = true := by induction n <;> simp_all [List.replicate_succ, V.pureL]
/-- what was found, or nothing -/
theorem go1 {P : Nat × Int → Prop} {o : Option (Nat × Int)} {Q : Prop} (h : ∀ j q, o = some (j, q) → P (j, q)) (k : o = none → Q) : (∀ a, o = some a → P a) ∧ (o = none → Q) := ⟨fun ⟨j, q⟩ e => h j q e, k⟩
/-- the next of a map's entries -/
theorem go2 {bs bs' : List Nat} {ck ck' : Nat} {left : List Nat} {A : Prop} {B : Nat → Prop} (h0 : bs' = bs ∧ ck' = ck) (h1 : left = [] → A) (h2 : ∀ j, j ∈ left → B j) :
    (bs' = bs ∧ ck' = ck) ∧ (left = [] → A) ∧ (∀ j, j ∈ left → B j) := ⟨h0, h1, h2⟩
theorem oneL_rep (n : Nat) (x : V) (h : x.one = true) : oneL (List.replicate n x) = true := by induction n <;> simp_all [List.replicate_succ, oneL]
theorem rep_bl (n : Nat) : List.replicate n (V.int .u8 0) = bl (List.replicate n 0) := by rw [bl_map]; simp [bv]
theorem scopedL_bl (s : List UInt8) (n : Nat) : V.scopedL n (bl s) = true := by induction s <;> simp_all [bl, bv, V.scopedL, V.isWs]
theorem bl_set (s : List UInt8) (n : Nat) (b : UInt8) : (bl s).set n (.int .u8 b.toNat) = bl (s.set n b) := by rw [bl_map, bl_map, List.map_set]; rfl
/-- whatever is read as this is read as that -/
def Wk (x y : V) : Prop := ∀ (st : St) (g : Ghost) (n : Nat) (v : Value), VR st g x n v → VR st g y n v
def WkL (xs ys : List V) : Prop := ∀ (st : St) (g : Ghost) (n : Nat) (vs : List Value), VRs st g xs n vs → VRs st g ys n vs
theorem Wk.refl (x : V) : Wk x x := fun _ _ _ _ h => h
theorem WkL.nil : WkL [] [] := fun _ _ _ _ h => h
theorem WkL.cons {x y : V} {xs ys : List V} (h : Wk x y) (hs : WkL xs ys) : WkL (x :: xs) (y :: ys) := fun st g n vs k => by
  simp only [VRs] at k ⊢
  obtain ⟨u, us, rfl, h1, h2⟩ := k
  exact ⟨u, us, rfl, h _ _ _ _ h1, hs _ _ _ _ h2⟩
theorem WkL.refl (xs : List V) : WkL xs xs := fun _ _ _ _ h => h
theorem Wk.agg {xs ys : List V} (h : WkL xs ys) : Wk (.agg xs) (.agg ys) := fun st g n v k => by
  simp only [VR] at k ⊢
  obtain ⟨vs, rfl, k⟩ := k
  exact ⟨vs, rfl, h _ _ _ _ k⟩
theorem Wk.tuple {xs ys : List V} (h : WkL xs ys) : Wk (.tuple xs) (.tuple ys) := fun st g n v k => by
  simp only [VR] at k ⊢
  obtain ⟨vs, rfl, k⟩ := k
  exact ⟨vs, rfl, h _ _ _ _ k⟩
theorem Wk.nil {c d : Bool} {sz sz' : Nat} (h : c = true ∨ d = false) : Wk (.list c sz []) (.list d sz' []) := fun st g n v k => by
  simp only [VR] at k ⊢
  obtain ⟨base, cap, rfl, h1, h2, h3, _⟩ := k
  refine ⟨base, cap, rfl, h1, h2, fun hd => ?_, .inl trivial⟩
  rcases h with h | h
  · exact h3 h
  · rw [h] at hd; cases hd
theorem Wk.clip {c : Bool} {sz : Nat} {l : List V} : Wk (.list c sz l) (.list false sz l) := fun st g n v k => by
  simp only [VR] at k ⊢
  obtain ⟨base, cap, rfl, h1, h2, h3, h4⟩ := k
  exact ⟨base, cap, rfl, h1, h2, by simp, h4⟩
theorem Wk.list {c d : Bool} {sz : Nat} {l m : List V} (hcd : c = true ∨ d = false) (hl : m.length = l.length) (h : ∀ (i : Nat) x y, l[i]? = some x → m[i]? = some y → Wk x y) : Wk (.list c sz l) (.list d sz m) := fun st g n v k => by
  simp only [VR] at k ⊢
  obtain ⟨base, cap, rfl, h1, h2, h3, h4⟩ := k
  refine ⟨base, cap, by rw [hl], by omega, by omega, fun hd => ?_, ?_⟩
  · rcases hcd with hc | hc
    · rw [hl]; exact h3 hc
    · rw [hc] at hd; cases hd
  · rcases h4 with h4 | ⟨b, o, h5, h6, h7⟩
    · left; subst h4; exact List.eq_nil_of_length_eq_zero (by simpa using hl)
    · right
      refine ⟨b, o, h5, h6, ?_⟩
      rw [VRrow_iff] at h7 ⊢
      intro i y hy
      have hi : i < l.length := by
        rcases Nat.lt_or_ge i m.length with h' | h'
        · omega
        · simp [List.getElem?_eq_none h'] at hy
      obtain ⟨u, q1, q2⟩ := h7 i l[i] (List.getElem?_eq_getElem hi)
      exact ⟨u, h i _ _ (List.getElem?_eq_getElem hi) hy _ _ _ _ q1, q2⟩

theorem FunOK.args {P : Program} {gl : Nat → Option (List V)} {f : FuncId} {xs ys : List V} {σ : List O} {x : V} {r : Option (List O)} (h : FunOK P gl f ys σ x r) (k : WkL xs ys) : FunOK P gl f xs σ x r :=
  ⟨h.1, fun E st g w vs W hg hv => h.2 E st g w vs W hg (k _ _ _ _ hv)⟩
theorem FunOK.res {P : Program} {gl : Nat → Option (List V)} {f : FuncId} {xs : List V} {σ : List O} {x y : V} {r : Option (List O)} (h : FunOK P gl f xs σ x r) (k : Wk x y) : FunOK P gl f xs σ y r :=
  ⟨h.1, fun E st g w vs W hg hv => (h.2 E st g w vs W hg hv).mono fun _ _ ⟨v, st', g', h1, h2, h3, h4⟩ => ⟨v, st', g', h1, h2, k _ _ _ _ h3, h4⟩⟩

/-- nil is as good as an empty buffer -/
theorem FunOK.nil {P : Program} {gl : Nat → Option (List V)} {f : FuncId} {xs : List V} {σ σ' : List O} {x : V} (k z sz : Nat) (hx : xs[k]? = some (.list true z []))
    (h : FunOK P gl f (xs.set k (.buf σ.length)) (σ ++ [.buf (sz + 1) 0 []]) x (some σ')) : FunOK P gl f xs σ x (some σ') := by
  refine ⟨h.1, fun E st g w vs W hg hv => ?_⟩
  obtain ⟨v, hv1, hv2⟩ := VRs_get hv hx
  simp only [VR] at hv2
  obtain ⟨base, cap, rfl, _, _, hcap, _⟩ := hv2
  obtain rfl : cap = 0 := by simpa using hcap trivial
  have W2 := W.ghost (base := base) (sz := sz + 1) (Nat.succ_pos _)
  have hlen : (σ ++ [O.buf (sz + 1) 0 []]).length = σ.length + 1 := by simp
  have hl := VRs_length hv
  refine (h.2 E st _ w vs W2 hg ?_).mono fun e w' ⟨v, st', g', h1, h2, h3, h4, h5, h6⟩ => ⟨v, st', g', h1, h2, h3, h4, ?_, fun i o ho hor => ?_⟩
  · rw [hlen, VRs_iff]
    refine ⟨by simpa using hl, fun i c v hc hvi => ?_⟩
    by_cases e : i = k
    · subst e
      rw [List.getElem?_set_self (by rcases Nat.lt_or_ge i xs.length with h' | h'; exact h'; simp [List.getElem?_eq_none h'] at hx)] at hc
      cases hc
      rw [hv1] at hvi; cases hvi
      simp only [VR]
      exact ⟨Nat.lt_succ_self _, by rw [upd_same]; simp⟩
    · rw [List.getElem?_set_ne (Ne.symm e)] at hc
      exact VR_more ((VRs_iff.1 hv).2 i c v hc hvi)
  · simp only [Option.getD_some] at h5 ⊢
    rw [hlen] at h5; omega
  · have hi : i < σ.length := by
      rcases Nat.lt_or_ge i σ.length with h' | h'
      · exact h'
      · simp [List.getElem?_eq_none h'] at ho
    have := h6 i o (by rw [List.getElem?_append_left hi]; exact ho) hor
    rw [this, upd_other (Nat.ne_of_lt hi)]

/-- a summary of a function -/
def Sm : Type := List V → List O → Option (Prop × V × Option (List O))
def SmOK (P : Program) (gl : Nat → Option (List V)) (f : FuncId) (s : Sm) : Prop := ∀ args sg pre x r, s args sg = some (pre, x, r) → pre → FunOK P gl f args sg x r
def sm0 : Sm := fun _ _ => none
theorem sm0_ok {P : Program} {gl : Nat → Option (List V)} {f : FuncId} : SmOK P gl f sm0 := fun _ _ _ _ _ h => by cases h
theorem sm_inj {pre pre' : Prop} {x x' : V} {r r' : Option (List O)} (h : some (pre, x, r) = some (pre', x', r')) : pre = pre' ∧ x = x' ∧ r = r' := by
  simp only [Option.some.injEq, Prod.mk.injEq] at h; exact h
/-! short names -/
theorem eqA {a b : List UInt8} (h : a = b) : V.str a = V.str b := by rw [h]
theorem eqB {k : IntKind} {a b : Int} (h : a = b) : V.int k a = V.int k b := by rw [h]
theorem eqC {a b : Bool} (h : a = b) : V.bool a = V.bool b := by rw [h]
theorem eqD {n m : Nat} {a b : List V} (h : a = b) : O.buf n m a = O.buf n m b := by rw [h]
theorem eqE {a b : List V} (h : a = b) : O.cells a = O.cells b := by rw [h]
theorem eqF {c : Bool} {n : Nat} {a b : List V} (h : a = b) : V.list c n a = V.list c n b := by rw [h]
theorem eqG {a b : List V} (h : a = b) : V.agg a = V.agg b := by rw [h]
theorem eqH {a b : List V} (h : a = b) : V.tuple a = V.tuple b := by rw [h]
theorem eqI {α : Type} {x y : α} {xs ys : List α} (h : x = y) (k : xs = ys) : x :: xs = y :: ys := by rw [h, k]
theorem eqS (s : List UInt8) (n : Nat) : V.scopedL n (bl s) = true := scopedL_bl s n
/-! functions that may panic -/
abbrev PSm : Type := List V → List O → Option (Prop × Prop × V × Option (List O) × V × Option (List O))
def PSmOK (P : Program) (gl : Nat → Option (List V)) (f : FuncId) (s : PSm) : Prop := ∀ args sg pre c u r x r2, s args sg = some (pre, c, u, r, x, r2) → pre →
  (c → ∃ v, panV u = some v ∧ PanOK P gl f args sg v r) ∧ (¬ c → FunOK P gl f args sg x r2)
def psm0 : PSm := fun _ _ => none
theorem psm0_ok {P : Program} {gl : Nat → Option (List V)} {f : FuncId} : PSmOK P gl f psm0 := fun _ _ _ _ _ _ _ _ h => by cases h
/-- a call that may panic -/
theorem goQ {p c A B : Prop} (h : Side p) (h1 : c → A) (h2 : ¬ c → B) : ((p ∧ c) ∨ (p ∧ ¬ c)) ∧ ((p ∧ c) → A) ∧ ((p ∧ ¬ c) → B) := by
  refine ⟨?_, fun q => h1 q.2, fun q => h2 q.2⟩
  by_cases hc : c
  · exact .inl ⟨h.h, hc⟩
  · exact .inr ⟨h.h, hc⟩
/-- goals that arithmetic leaves alone -/
class Stay (p : Prop) : Prop where
  y : True
instance {a b c d} : Stay (LoopP a b c d) := ⟨trivial⟩
instance {a b c d e} : Stay (GotoP a b c d e) := ⟨trivial⟩
instance {a b c d e f} : Stay (EndP a b c d e f) := ⟨trivial⟩
instance {a b c} : Stay (PanP a b c) := ⟨trivial⟩
instance : Stay False := ⟨trivial⟩
instance {α} {p : α → Prop} : Stay (∃ x, p x) := ⟨trivial⟩
theorem stay {p : Prop} [Stay p] (h : p) : p := h
theorem andI {a b : Prop} (h : a) (k : b) : a ∧ b := ⟨h, k⟩
end Go.VG
namespace Go.VG
open Go
section
variable {H : Type} {ti : TypeId → TI} {f : Nat} {t : TypeId} {d : DataW H} {xs : List V}
theorem cellsD_int {k : IntKind} (hk : (ti t).k = .int k) (h : cellsD ti f t d = some xs) : ∃ k' n, xs = [.int k' n] := by
  cases f with
  | zero => simp [cellsD] at h
  | succ f =>
    unfold cellsD at h
    rw [hk] at h
    split at h <;> simp_all
    exact ⟨_, _, h.symm⟩
theorem cellsD_intK {k : IntKind} (hk : (ti t).k = .int k) (h : cellsD ti f t d = some xs) : ∃ n, xs = [.int k n] := by
  cases f with
  | zero => simp [cellsD] at h
  | succ f =>
    unfold cellsD at h
    rw [hk] at h
    split at h <;> simp_all
    exact ⟨_, h.symm⟩
theorem cellsD_bool (hk : (ti t).k = .bool) (h : cellsD ti f t d = some xs) : ∃ b, xs = [.bool b] := by
  cases f with
  | zero => simp [cellsD] at h
  | succ f =>
    unfold cellsD at h
    rw [hk] at h
    split at h
    all_goals first
      | (cases h; exact ⟨_, rfl⟩)
      | (simp_all; done)
theorem cellsD_str (hk : (ti t).k = .string) (h : cellsD ti f t d = some xs) : ∃ s, xs = [.str s] := by
  cases f with
  | zero => simp [cellsD] at h
  | succ f =>
    unfold cellsD at h
    rw [hk] at h
    split at h <;> simp_all
    exact ⟨_, h.symm⟩
theorem cellsD_slice {e : TypeId} (hk : (ti t).k = .slice e) (h : cellsD ti f t d = some xs) : xs = [.list true (ti e).size []] ∨ ∃ f' ds l, f = f' + 1 ∧ (ds : List (DataW H)).mapM (fun x => (cellsD ti f' e x).bind (asV (ti e).k.isAgg)) = some l ∧ xs = [.list false (ti e).size l] := by
  cases f with
  | zero => simp [cellsD] at h
  | succ f =>
    unfold cellsD at h
    rw [hk] at h
    split at h <;> simp_all
    · rename_i h1
      obtain ⟨l, h3, h4⟩ := h
      exact .inr ⟨_, l, h3, h4.symm⟩
theorem cellsD_struct {fs : List (Nat × TypeId)} (hk : (ti t).k = .struct fs) (h : cellsD ti f t d = some xs) : ∃ f' parts xss, f = f' + 1 ∧ (parts : List (DataW H)).length = fs.length ∧ (fs.zip parts).mapM (fun p => cellsD ti f' p.1.2 p.2) = some xss ∧ xs = xss.flatten := by
  cases f with
  | zero => simp [cellsD] at h
  | succ f =>
    unfold cellsD at h
    rw [hk] at h
    cases d <;> simp only at h <;> try (cases h; done)
    rename_i parts
    cases hb : Nat.beq fs.length parts.length with
    | false => rw [hb] at h; cases h
    | true =>
      rw [hb] at h
      simp only [cond_true, Option.map_eq_some_iff] at h
      obtain ⟨xss, h2, h3⟩ := h
      exact ⟨f, parts, xss, rfl, (Nat.eq_of_beq_eq_true hb).symm, h2, h3.symm⟩
theorem mapM_two {α β : Type} {g : α → Option β} {x : α} {l : List α} {r : List β} (h : (x :: l).mapM g = some r) : ∃ y ys, g x = some y ∧ l.mapM g = some ys ∧ r = y :: ys := by
  rw [List.mapM_cons] at h
  cases hx : g x with
  | none => rw [hx] at h; simp at h
  | some y =>
    rw [hx] at h
    cases hl : l.mapM g with
    | none => rw [hl] at h; simp at h
    | some ys =>
      rw [hl] at h
      simp at h
      exact ⟨y, ys, rfl, rfl, h.symm⟩
/-- a list of what is each a thing is a list of things -/
theorem list_of {α β : Type} {g : α → Option V} {enc : β → V} {sz : Nat} : ∀ {ds : List α} {l : List V}, ds.mapM g = some l → (∀ d x, g d = some x → ∃ b, Wk x (enc b)) → ∃ bs : List β, Wk (.list false sz l) (.list false sz (bs.map enc)) ∧ bs.length = ds.length
  | [], l, h, _ => by
    simp at h; subst h
    exact ⟨[], Wk.refl _, rfl⟩
  | d :: ds, l, h, hd => by
    obtain ⟨y, ys, h1, h2, rfl⟩ := mapM_two h
    obtain ⟨b, hb⟩ := hd _ _ h1
    obtain ⟨bs, hbs, hl⟩ := list_of (sz := sz) h2 hd
    have hlen : ys.length = bs.length := by rw [hl]; exact mapM_some_length h2
    refine ⟨b :: bs, ?_, by simp [hl]⟩
    intro st gg n v k
    simp only [VR] at k
    obtain ⟨base, cap, rfl, k1, k2, _, k3⟩ := k
    rcases k3 with k3 | ⟨bb, o, k4, k5, k6⟩
    · cases k3
    · have k7 : VR st gg (.list false sz ys) n (.slice (some ⟨bb, o + sz, none⟩) ys.length ys.length) := by
        simp only [VR]
        simp only [VRrow] at k6
        refine ⟨_, _, rfl, Nat.le_refl _, by simp at k2; omega, by simp, ?_⟩
        cases ys with
        | nil => exact .inl rfl
        | cons _ _ => exact .inr ⟨bb, o + sz, rfl, k5, k6.2⟩
      have k8 := hbs st gg n _ k7
      simp only [VR] at k8 ⊢
      refine ⟨base, cap, by simp [hlen], by simpa [hlen] using k1, by simpa [hlen] using k2, by simp, .inr ⟨bb, o, k4, k5, ?_⟩⟩
      simp only [VRrow, List.map_cons] at k6 ⊢
      obtain ⟨⟨u, q1, q2⟩, _⟩ := k6
      refine ⟨⟨u, hb _ _ _ _ q1, q2⟩, ?_⟩
      obtain ⟨base', cap', e1, _, _, _, e2⟩ := k8
      rcases e2 with e2 | ⟨b2, o2, e3, _, e4⟩
      · rw [e2]; simp [VRrow]
      · simp only [Value.slice.injEq] at e1
        obtain ⟨e1, _, _⟩ := e1
        rw [e3] at e1
        cases e1
        exact e4
theorem cellsD_strD (hk : (ti t).k = .string) (h : cellsD ti f t d = some xs) : ∃ s, xs = [.str s] ∧ d = .lit (.string s) := by
  cases f with
  | zero => simp [cellsD] at h
  | succ f =>
    unfold cellsD at h
    rw [hk] at h
    split at h <;> simp_all
theorem cellsD_sliceD {e : TypeId} (hk : (ti t).k = .slice e) (h : cellsD ti f t d = some xs) : xs = [.list true (ti e).size []] ∨ ∃ f' ds sp l, f = f' + 1 ∧ d = .slice ds sp ∧ (ds : List (DataW H)).mapM (fun x => (cellsD ti f' e x).bind (asV (ti e).k.isAgg)) = some l ∧ xs = [.list false (ti e).size l] := by
  cases f with
  | zero => simp [cellsD] at h
  | succ f =>
    unfold cellsD at h
    rw [hk] at h
    cases d <;> simp only at h <;> try (cases h; done)
    · cases h; exact .inl rfl
    · rename_i elems sp
      simp only [Option.map_eq_some_iff] at h
      obtain ⟨l, h3, h4⟩ := h
      exact .inr ⟨f, elems, sp, l, rfl, rfl, h3, h4.symm⟩
theorem cellsD_structD {fs : List (Nat × TypeId)} (hk : (ti t).k = .struct fs) (h : cellsD ti f t d = some xs) : ∃ f' parts xss, f = f' + 1 ∧ d = .agg parts ∧ (parts : List (DataW H)).length = fs.length ∧ (fs.zip parts).mapM (fun p => cellsD ti f' p.1.2 p.2) = some xss ∧ xs = xss.flatten := by
  cases f with
  | zero => simp [cellsD] at h
  | succ f =>
    unfold cellsD at h
    rw [hk] at h
    cases d <;> simp only at h <;> try (cases h; done)
    rename_i parts
    cases hb : Nat.beq fs.length parts.length with
    | false => rw [hb] at h; cases h
    | true =>
      rw [hb] at h
      simp only [cond_true, Option.map_eq_some_iff] at h
      obtain ⟨xss, h2, h3⟩ := h
      exact ⟨f, parts, xss, rfl, rfl, (Nat.eq_of_beq_eq_true hb).symm, h2, h3.symm⟩
/-- the same, with what is known of each -/
theorem list_ofQ {α β : Type} {g : α → Option V} {enc : β → V} {sz : Nat} {Q : α → β → Prop} : ∀ {ds : List α} {l : List V}, ds.mapM g = some l → (∀ d ∈ ds, ∀ x, g d = some x → ∃ b, Wk x (enc b) ∧ Q d b) →
    ∃ bs : List β, Wk (.list false sz l) (.list false sz (bs.map enc)) ∧ bs.length = ds.length ∧ ∀ b ∈ bs, ∃ d ∈ ds, Q d b
  | [], l, h, _ => by
    simp at h; subst h
    exact ⟨[], Wk.refl _, rfl, by simp⟩
  | d :: ds, l, h, hd => by
    obtain ⟨y, ys, h1, h2, rfl⟩ := mapM_two h
    obtain ⟨b, hb, hq⟩ := hd d (by simp) _ h1
    obtain ⟨bs, hbs, hl, hqs⟩ := list_ofQ (sz := sz) h2 fun e he => hd e (by simp [he])
    have hlen : ys.length = bs.length := by rw [hl]; exact mapM_some_length h2
    refine ⟨b :: bs, ?_, by simp [hl], fun c hc => ?_⟩
    · intro st gg n v k
      simp only [VR] at k
      obtain ⟨base, cap, rfl, k1, k2, _, k3⟩ := k
      rcases k3 with k3 | ⟨bb, o, k4, k5, k6⟩
      · cases k3
      · have k7 : VR st gg (.list false sz ys) n (.slice (some ⟨bb, o + sz, none⟩) ys.length ys.length) := by
          simp only [VR]
          simp only [VRrow] at k6
          refine ⟨_, _, rfl, Nat.le_refl _, by simp at k2; omega, by simp, ?_⟩
          cases ys with
          | nil => exact .inl rfl
          | cons _ _ => exact .inr ⟨bb, o + sz, rfl, k5, k6.2⟩
        have k8 := hbs st gg n _ k7
        simp only [VR] at k8 ⊢
        refine ⟨base, cap, by simp [hlen], by simpa [hlen] using k1, by simpa [hlen] using k2, by simp, .inr ⟨bb, o, k4, k5, ?_⟩⟩
        simp only [VRrow, List.map_cons] at k6 ⊢
        obtain ⟨⟨u, q1, q2⟩, _⟩ := k6
        refine ⟨⟨u, hb _ _ _ _ q1, q2⟩, ?_⟩
        obtain ⟨base', cap', e1, _, _, _, e2⟩ := k8
        rcases e2 with e2 | ⟨b2, o2, e3, _, e4⟩
        · rw [e2]; simp [VRrow]
        · simp only [Value.slice.injEq] at e1
          obtain ⟨e1, _, _⟩ := e1
          rw [e3] at e1
          cases e1
          exact e4
    · rcases List.mem_cons.1 hc with rfl | hc
      · exact ⟨d, by simp, hq⟩
      · obtain ⟨e, he, hqe⟩ := hqs c hc
        exact ⟨e, by simp [he], hqe⟩
theorem AreD_one {t : TypeId} {ds : List (DataW H)} {xs : List V} (h : AreD ti [t] ds xs) : ∃ d x, ds = [d] ∧ xs = [x] ∧ IsD ti t d x := by
  match ds, xs, h with
  | [d], [x], h => exact ⟨d, x, rfl, rfl, h.1⟩
  | [], [], h => exact h.elim
  | [], _ :: _, h => exact h.elim
  | [_], [], h => exact h.elim
  | [_], _ :: _ :: _, h => exact h.2.elim
  | _ :: _ :: _, [], h => exact h.elim
  | _ :: _ :: _, _ :: _, h => exact absurd h.2 (by simp [AreD])
theorem AreD_cons {t : TypeId} {ts : List TypeId} {ds : List (DataW H)} {xs : List V} (h : AreD ti (t :: ts) ds xs) : ∃ d x ds' xs', ds = d :: ds' ∧ xs = x :: xs' ∧ IsD ti t d x ∧ AreD ti ts ds' xs' := by
  match ds, xs, h with
  | d :: ds, x :: xs, h => exact ⟨d, x, ds, xs, rfl, rfl, h.1, h.2⟩
  | [], [], h => exact h.elim
  | [], _ :: _, h => exact h.elim
  | _ :: _, [], h => exact h.elim
theorem AreD_nil {ds : List (DataW H)} {xs : List V} (h : AreD ti [] ds xs) : ds = [] ∧ xs = [] := by
  match ds, xs, h with
  | [], [], _ => exact ⟨rfl, rfl⟩
  | [], _ :: _, h => exact h.elim
  | _ :: _, [], h => exact h.elim
  | _ :: _, _ :: _, h => exact h.elim
theorem isD_strD (hk : (ti t).k = .string) {x : V} (h : IsD ti t d x) : ∃ s, x = .str s ∧ d = .lit (.string s) := by
  obtain ⟨f, h⟩ := h
  simp only [Option.bind_eq_some_iff] at h
  obtain ⟨cs, h1, h2⟩ := h
  obtain ⟨s, rfl, rfl⟩ := cellsD_strD hk h1
  rw [hk] at h2
  have h2 : some (V.str s) = some x := h2
  cases h2
  exact ⟨s, rfl, rfl⟩
theorem laidMetH_nil {P : Program} {W : World} : laidMetH P [] W := ⟨[], rfl, by simp, by simp⟩
end
theorem FunOK.of_wf {P : Program} {gl : Nat → Option (List V)} {f : FuncId} {xs : List V} {σ : List O} {x : V} {r : Option (List O)} (hc : CallOK P f) (h : V.wfL xs → FunOK P gl f xs σ x r) : FunOK P gl f xs σ x r :=
  ⟨hc, fun E st g w vs W hg hv => (h (VRs_wf hv)).2 E st g w vs W hg hv⟩
end Go.VG
