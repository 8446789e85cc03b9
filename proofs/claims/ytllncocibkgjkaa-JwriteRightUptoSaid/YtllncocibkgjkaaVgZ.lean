/-
  A part of the proof.
-/
import Derived.Test.YtllncocibkgjkaaVgX
set_option linter.unusedSimpArgs false
set_option linter.unusedVariables false
namespace Go.VG
open Go

structure af (A : Prop) : Prop where
 h : A

theorem al {A B : Prop} (h : af A) (k : B) : A ∧ B := ⟨h.h, k⟩
theorem iO {b : Bool} {A B : Prop} (h1 : b = true → A) (h2 : b = false → B) : bg b A B := by cases b <;> simp_all [bg]
theorem ay {p : Prop} {d : Decidable p} {A B : Prop} (h1 : p → A) (h2 : ¬ p → B) : bg (@decide p d) A B := iO (fun h => h1 (by simpa using h)) (fun h => h2 (by simpa using h))
theorem go9 {a b : List UInt8} {A B : Prop} (h1 : a = b → A) (h2 : a ≠ b → B) : bg (a == b) A B := iO (fun h => h1 (by simpa using h)) (fun h => h2 (by simpa using h))
theorem bh {b : Bool} {A B : Prop} (h : bg b B A) : bg (!b) A B := by cases b <;> exact h
theorem iN {b : Bool} {A : Prop} (h1 : af (b = true)) (h2 : A) : fZ b A := by
 obtain ⟨h⟩ := h1; subst h; exact h2
theorem n5 {α : Type} {l : List α} {n : Nat} {K : α → Prop} (h1 : af (n < l.length)) (h2 : ∀ a, l[n]? = some a → K a) : iD l n K :=
 ⟨l[n]'h1.h, List.getElem?_eq_getElem h1.h, h2 _ (List.getElem?_eq_getElem h1.h)⟩
theorem goE {s : List UInt8} {n : Nat} {K : UInt8 → Prop} (h1 : af (n < s.length)) (h2 : (s.getD n 0).toNat < 256 → K (s.getD n 0)) : iD s n K :=
 n5 h1 fun a ha => by rw [List.getD_eq_getElem?_getD, ha] at h2; exact h2 (UInt8.toNat_lt _)
theorem kF {s : List UInt8} {n : Nat} {K : UInt8 → Prop} (h1 : af (n < s.length)) (h2 : (s.getD n 0).toNat < 256 → K (s.getD n 0)) : iD s (n : Int).toNat K := goE h1 h2
theorem xX {α γ : Type} {l : List α} {e : α → γ} {n : Nat} {K : γ → Prop} (h1 : af (n < l.length)) (h2 : ∀ a, l[n]? = some a → K (e a)) : iD (l.map e) n K := by
 refine n5 ⟨by simpa using h1.h⟩ fun a ha => ?_
 simp only [List.getElem?_map, Option.map_eq_some_iff] at ha
 obtain ⟨b, hb, rfl⟩ := ha
 exact h2 b hb
theorem oa (s : List UInt8) : bl s = s.map bv := by induction s <;> simp_all [bl]
theorem goC {s : List UInt8} {n : Nat} {K : V → Prop} (h1 : af (n < s.length)) (h2 : (s.getD n 0).toNat < 256 → K (.int .u8 (s.getD n 0).toNat)) : iD (bl s) n K := by
 rw [oa]; exact xX h1 fun a ha => by rw [List.getD_eq_getElem?_getD, ha] at h2; exact h2 (UInt8.toNat_lt _)
theorem goB {s : List UInt8} {n : Nat} {K : V → Prop} (h1 : af (n < s.length)) (h2 : (s.getD n 0).toNat < 256 → K (.int .u8 (s.getD n 0).toNat)) : iD (bl s) (n : Int).toNat K := goC h1 h2
theorem goG {α γ : Type} [Inhabited α] {l : List α} {e : α → γ} {n : Nat} {K : γ → Prop} (h1 : af (n < l.length)) (h2 : K (e (l.getD n default))) : iD (l.map e) n K :=
 xX h1 fun a ha => by rw [List.getD_eq_getElem?_getD, ha] at h2; exact h2
theorem goF {α γ : Type} [Inhabited α] {l : List α} {e : α → γ} {n : Nat} {K : γ → Prop} (h1 : af (n < l.length)) (h2 : K (e (l.getD n default))) : iD (l.map e) (n : Int).toNat K := goG h1 h2
theorem bz (s t : List UInt8) : bl (s ++ t) = bl s ++ bl t := by simp [oa]
theorem Bm (s : List UInt8) (n : Nat) : (bl s).drop n = bl (s.drop n) := by simp [oa]
theorem kG {s : List UInt8} {Q : List UInt8 → Prop} (h : Q s) : ∃ a, bl s = bl a ∧ Q a := ⟨s, rfl, h⟩
def byte (n : Int) : UInt8 := .ofNat n.toNat
theorem mB {n : Int} (h : 0 ≤ n ∧ n ≤ 255) : ((byte n).toNat : Int) = n := by
 simp only [byte, UInt8.toNat_ofNat']; omega
theorem cF (b : UInt8) : byte b.toNat = b := by
 have := mB (n := b.toNat) (by have := b.toNat_lt; omega)
 exact UInt8.toNat_inj.1 (by omega)
theorem goJ {n : Int} {Q : List UInt8 → Prop} (h1 : af (0 ≤ n ∧ n ≤ 255)) (h : Q [byte n]) : ∃ a, [V.int .u8 n] = bl a ∧ Q a := ⟨_, by simp [bl, bv, mB h1.h], h⟩
theorem mh (n : Int) : IntKind.u8.wrap n = n % 256 := rfl
theorem wu16 (n : Int) : IntKind.u16.wrap n = n % 65536 := rfl
theorem wu32 (n : Int) : IntKind.u32.wrap n = n % 4294967296 := rfl
theorem wu64 (n : Int) : IntKind.u64.wrap n = n % 18446744073709551616 := rfl
theorem nP (n : Int) : IntKind.i64.wrap n = (n + 9223372036854775808) % 18446744073709551616 - 9223372036854775808 := by
 show (if true && decide (n % 18446744073709551616 ≥ 9223372036854775808) then n % 18446744073709551616 - 18446744073709551616 else n % 18446744073709551616) = _
 simp only [Bool.true_and, decide_eq_true_eq]; split <;> omega
theorem mg (n : Int) : IntKind.i32.wrap n = (n + 2147483648) % 4294967296 - 2147483648 := by
 show (if true && decide (n % 4294967296 ≥ 2147483648) then n % 4294967296 - 4294967296 else n % 4294967296) = _
 simp only [Bool.true_and, decide_eq_true_eq]; split <;> omega
theorem wR : (∀ n, IntKind.u8.wrap n = n % 256) ∧ (∀ n, IntKind.u16.wrap n = n % 65536) ∧ (∀ n, IntKind.u32.wrap n = n % 4294967296) ∧ (∀ n, IntKind.u64.wrap n = n % 18446744073709551616) ∧
   (∀ n, IntKind.i32.wrap n = (n + 2147483648) % 4294967296 - 2147483648) ∧ (∀ n, IntKind.i64.wrap n = (n + 9223372036854775808) % 18446744073709551616 - 9223372036854775808) ∧
   (∀ {a b : Int}, 0 ≤ a → a.tdiv b = a / b) ∧ (∀ {a b : Int}, 0 ≤ a → a.tmod b = a % b) :=
 ⟨mh, wu16, wu32, wu64, mg, nP, fun h => Int.tdiv_eq_ediv_of_nonneg h, fun h => Int.tmod_eq_emod_of_nonneg h⟩
theorem cD : (∀ {α : Type} {a b : List α}, (a ++ b).length = a.length + b.length) ∧ (∀ {α : Type} {x : α} {a : List α}, (x :: a).length = a.length + 1) ∧ (∀ {α : Type}, ([] : List α).length = 0) ∧ (∀ s, (bl s).length = s.length) ∧
   (∀ {α : Type} {i : Nat} {a : List α}, (a.take i).length = min i a.length) ∧ (∀ {α : Type} {i : Nat} {a : List α}, (a.drop i).length = a.length - i) :=
 ⟨List.length_append, List.length_cons, List.length_nil, cE, List.length_take, List.length_drop⟩
theorem sH {α : Type} {l : List α} {n : Nat} (d : α) (h : n < l.length) : (l.take (n + 1)).drop n = [l.getD n d] := by
 rw [List.drop_take, show n + 1 - n = 1 by omega]
 rw [List.getD_eq_getElem?_getD, List.getElem?_eq_getElem h]
 rw [List.drop_eq_getElem_cons h]; rfl
theorem rS {s : List UInt8} {i : Nat} (h : i < s.length) : s.take (i + 1) = s.take i ++ [s.getD i 0] := by
 rw [List.take_add_one, List.getD_eq_getElem?_getD, List.getElem?_eq_getElem h]; rfl
theorem qg {α : Type} {x y : α} {xs ys : List α} (h : x = y) (k : xs = ys) : x :: xs = y :: ys := by rw [h, k]
theorem qB (k : IntKind) (n b : Nat) : iQ k n b = ((n / 2 ^ (min b k.bits) : Nat) : Int) := by
 unfold iQ
 rw [show ((b : Int)).toNat = b from rfl, Int.fdiv_eq_ediv_of_nonneg _ (by exact_mod_cast Nat.zero_le _)]
 simp
theorem EA (n : Nat) (h : n < 256) : kJ .u8 n 15 = ((n % 16 : Nat) : Int) := by
 show IntKind.u8.wrap ((BitVec.ofInt 8 (n : Int) &&& BitVec.ofInt 8 15).toNat : Int) = _
 rw [mh, BitVec.ofInt_natCast, show BitVec.ofInt 8 15 = BitVec.ofNat 8 15 from rfl, BitVec.toNat_and, BitVec.toNat_ofNat, BitVec.toNat_ofNat, Nat.mod_eq_of_lt h,
  show n &&& 15 % 2 ^ 8 = n % 16 from Nat.and_two_pow_sub_one_eq_mod n 4]
 omega
theorem A9 {x : V} : ∀ {cs : List V} {n : Nat}, n < cs.length → fU cs n [x] = some (cs.set n x)
 | [], n, h => by simp at h
 | y :: cs, 0, _ => by simp [fU]
 | y :: cs, n + 1, h => by simp only [fU]; rw [A9 (cs := cs) (by simpa using h)]; simp
theorem goN {cs : List V} {n : Nat} {x : V} {K : List V → Prop} (h1 : af (n < cs.length)) (h2 : K (cs.set n x)) : dJ (fU cs n [x]) K := by rw [A9 h1.h]; exact h2
theorem Az : ∀ {cs : List V} {m : Nat}, m ≤ cs.length → fA cs m = some (cs.take m)
 | cs, 0, _ => by cases cs <;> simp [fA]
 | [], m + 1, h => by simp at h
 | c :: cs, m + 1, h => by simp only [fA]; rw [Az (cs := cs) (by simpa using h)]; simp
theorem goO {cs : List V} {a m : Nat} {K : List V → Prop} (h1 : af (a + m ≤ cs.length)) (h2 : K ((cs.drop a).take m)) : dJ (fA (gR cs a) m) K := by
 rw [qj, Az (by simp; have := h1.h; omega)]; exact h2
theorem goP {l : List V} {K : List V → Prop} (h : K l) : bO l K := by rw [ia]; exact h
theorem GK (s : List UInt8) : V.fy (bl s) = true := by induction s <;> simp_all [bl, bv, V.fy, V.pure]
theorem Ge (s : List UInt8) : cI (bl s) = true := by induction s <;> simp_all [bl, bv, cI, V.one]
theorem go1 {P : Nat × Int → Prop} {o : Option (Nat × Int)} {Q : Prop} (h : ∀ j q, o = some (j, q) → P (j, q)) (k : o = none → Q) : (∀ a, o = some a → P a) ∧ (o = none → Q) := ⟨fun ⟨j, q⟩ e => h j q e, k⟩
theorem HT (s : List UInt8) (n : Nat) : V.jj n (bl s) = true := by induction s <;> simp_all [bl, bv, V.jj, V.dH]
theorem Bn (s : List UInt8) (n : Nat) (b : UInt8) : (bl s).set n (.int .u8 b.toNat) = bl (s.set n b) := by rw [oa, oa, List.map_set]; rfl
def Wk (x y : V) : Prop := ∀ (st : St) (g : a9) (n : Nat) (v : Value), VR st g x n v → VR st g y n v
def cN (xs ys : List V) : Prop := ∀ (st : St) (g : a9) (n : Nat) (vs : List Value), aj st g xs n vs → aj st g ys n vs
theorem Wk.refl (x : V) : Wk x x := fun _ _ _ _ h => h
theorem cN.nil : cN [] [] := fun _ _ _ _ h => h
theorem cN.cons {x y : V} {xs ys : List V} (h : Wk x y) (hs : cN xs ys) : cN (x :: xs) (y :: ys) := fun st g n vs k => by
 simp only [aj] at k ⊢
 obtain ⟨u, us, rfl, h1, h2⟩ := k
 exact ⟨u, us, rfl, h _ _ _ _ h1, hs _ _ _ _ h2⟩
theorem cN.refl (xs : List V) : cN xs xs := fun _ _ _ _ h => h
theorem Wk.agg {xs ys : List V} (h : cN xs ys) : Wk (.agg xs) (.agg ys) := fun st g n v k => by
 simp only [VR] at k ⊢
 obtain ⟨vs, rfl, k⟩ := k
 exact ⟨vs, rfl, h _ _ _ _ k⟩
theorem Wk.nil {c d : Bool} {sz sz' : Nat} (h : c = true ∨ d = false) : Wk (.list c sz []) (.list d sz' []) := fun st g n v k => by
 simp only [VR] at k ⊢
 obtain ⟨base, cap, rfl, h1, h2, h3, _⟩ := k
 refine ⟨base, cap, rfl, h1, h2, fun hd => ?_, .inl trivial⟩
 rcases h with h | h
 . exact h3 h
 . rw [h] at hd; cases hd
theorem ez.args {P : Program} {gl : Nat → Option (List V)} {f : FuncId} {xs ys : List V} {σ : List O} {x : V} {r : Option (List O)} (h : ez P gl f ys σ x r) (k : cN xs ys) : ez P gl f xs σ x r :=
 ⟨h.1, fun E st g w vs W hg hv => h.2 E st g w vs W hg (k _ _ _ _ hv)⟩
theorem ez.nil {P : Program} {gl : Nat → Option (List V)} {f : FuncId} {xs : List V} {σ σ' : List O} {x : V} (k z sz : Nat) (hx : xs[k]? = some (.list true z []))
   (h : ez P gl f (xs.set k (.buf σ.length)) (σ ++ [.buf (sz + 1) 0 []]) x (some σ')) : ez P gl f xs σ x (some σ') := by
 refine ⟨h.1, fun E st g w vs W hg hv => ?_⟩
 obtain ⟨v, hv1, hv2⟩ := iF hv hx
 simp only [VR] at hv2
 obtain ⟨base, cap, rfl, _, _, hcap, _⟩ := hv2
 obtain rfl : cap = 0 := by simpa using hcap trivial
 have W2 := W.ghost (base := base) (sz := sz + 1) (Nat.succ_pos _)
 have hlen : (σ ++ [O.buf (sz + 1) 0 []]).length = σ.length + 1 := by simp
 have hl := cY hv
 refine (h.2 E st _ w vs W2 hg ?_).mono fun e w' ⟨v, st', g', h1, h2, h3, h4, h5, h6⟩ => ⟨v, st', g', h1, h2, h3, h4, ?_, fun i o ho hor => ?_⟩
 . rw [hlen, fF]
   refine ⟨by simpa using hl, fun i c v hc hvi => ?_⟩
   by_cases e : i = k
   . subst e
     rw [List.getElem?_set_self (by rcases Nat.lt_or_ge i xs.length with h' | h'; exact h'; simp [List.getElem?_eq_none h'] at hx)] at hc
     cases hc
     rw [hv1] at hvi; cases hvi
     simp only [VR]
     exact ⟨Nat.lt_succ_self _, by rw [cU]; simp⟩
   . rw [List.getElem?_set_ne (Ne.symm e)] at hc
     exact nV ((fF.1 hv).2 i c v hc hvi)
 . simp only [Option.getD_some] at h5 ⊢
   rw [hlen] at h5; omega
 . have hi : i < σ.length := by
     rcases Nat.lt_or_ge i σ.length with h' | h'
     . exact h'
     . simp [List.getElem?_eq_none h'] at ho
   have := h6 i o (by rw [List.getElem?_append_left hi]; exact ho) hor
   rw [this, c7 (Nat.ne_of_lt hi)]

def Sm : Type := List V → List O → Option (Prop × V × Option (List O))
def pN (P : Program) (gl : Nat → Option (List V)) (f : FuncId) (s : Sm) : Prop := ∀ args sg pre x r, s args sg = some (pre, x, r) → pre → ez P gl f args sg x r
def sm0 : Sm := fun _ _ => none
theorem I1 {P : Program} {gl : Nat → Option (List V)} {f : FuncId} : pN P gl f sm0 := fun _ _ _ _ _ h => by cases h
theorem eqA {a b : List UInt8} (h : a = b) : V.str a = V.str b := by rw [h]
theorem cw {k : IntKind} {a b : Int} (h : a = b) : V.int k a = V.int k b := by rw [h]
theorem eqC {a b : Bool} (h : a = b) : V.bool a = V.bool b := by rw [h]
theorem aJ {n m : Nat} {a b : List V} (h : a = b) : O.buf n m a = O.buf n m b := by rw [h]
theorem eqE {a b : List V} (h : a = b) : O.cells a = O.cells b := by rw [h]
theorem eqH {a b : List V} (h : a = b) : V.tuple a = V.tuple b := by rw [h]
theorem jz {α : Type} {x y : α} {xs ys : List α} (h : x = y) (k : xs = ys) : x :: xs = y :: ys := by rw [h, k]
theorem eqS (s : List UInt8) (n : Nat) : V.jj n (bl s) = true := HT s n
abbrev dC : Type := List V → List O → Option (Prop × Prop × V × Option (List O) × V × Option (List O))
def pL (P : Program) (gl : Nat → Option (List V)) (f : FuncId) (s : dC) : Prop := ∀ args sg pre c u r x r2, s args sg = some (pre, c, u, r, x, r2) → pre →
 (c → ∃ v, iq u = some v ∧ ml P gl f args sg v r) ∧ (¬ c → ez P gl f args sg x r2)
def psm0 : dC := fun _ _ => none
theorem GI {P : Program} {gl : Nat → Option (List V)} {f : FuncId} : pL P gl f psm0 := fun _ _ _ _ _ _ _ _ h => by cases h
theorem fL {p c A B : Prop} (h : af p) (h1 : c → A) (h2 : ¬ c → B) : ((p ∧ c) ∨ (p ∧ ¬ c)) ∧ ((p ∧ c) → A) ∧ ((p ∧ ¬ c) → B) := by
 refine ⟨?_, fun q => h1 q.2, fun q => h2 q.2⟩
 by_cases hc : c
 . exact .inl ⟨h.h, hc⟩
 . exact .inr ⟨h.h, hc⟩
class ld (p : Prop) : Prop where
 y : True
instance {a b c d} : ld (cg a b c d) := ⟨trivial⟩
instance {a b c d e} : ld (l9 a b c d e) := ⟨trivial⟩
instance {a b c d e f} : ld (ah a b c d e f) := ⟨trivial⟩
instance {a b c} : ld (c9 a b c) := ⟨trivial⟩
instance : ld False := ⟨trivial⟩
instance {α} {p : α → Prop} : ld (∃ x, p x) := ⟨trivial⟩
theorem stay {p : Prop} [ld p] (h : p) : p := h
theorem ak {a b : Prop} (h : a) (k : b) : a ∧ b := ⟨h, k⟩
end Go.VG
namespace Go.VG
open Go
section
variable {H : Type} {ti : TypeId → TI} {f : Nat} {t : TypeId} {d : DataW H} {xs : List V}
theorem wv {k : IntKind} (hk : (ti t).k = .int k) (h : aP ti f t d = some xs) : ∃ n, xs = [.int k n] := by
 cases f with
 | zero => simp [aP] at h
 | succ f =>
   unfold aP at h
   rw [hk] at h
   split at h <;> simp_all
   exact ⟨_, h.symm⟩
theorem qS {α β : Type} {g : α → Option β} {x : α} {l : List α} {r : List β} (h : (x :: l).mapM g = some r) : ∃ y ys, g x = some y ∧ l.mapM g = some ys ∧ r = y :: ys := by
 rw [List.mapM_cons] at h
 cases hx : g x with
 | none => rw [hx] at h; simp at h
 | some y =>
   rw [hx] at h
   cases hl : l.mapM g with
   | none => rw [hl] at h; simp at h
   | some ys =>
     rw [hl] at h
     simp at h
     exact ⟨y, ys, rfl, rfl, h.symm⟩
theorem By (hk : (ti t).k = .string) (h : aP ti f t d = some xs) : ∃ s, xs = [.str s] ∧ d = .lit (.string s) := by
 cases f with
 | zero => simp [aP] at h
 | succ f =>
   unfold aP at h
   rw [hk] at h
   split at h <;> simp_all
theorem Bx {e : TypeId} (hk : (ti t).k = .slice e) (h : aP ti f t d = some xs) : xs = [.list true (ti e).size []] ∨ ∃ f' ds sp l, f = f' + 1 ∧ d = .slice ds sp ∧ (ds : List (DataW H)).mapM (fun x => (aP ti f' e x).bind (eO (ti e).k.isAgg)) = some l ∧ xs = [.list false (ti e).size l] := by
 cases f with
 | zero => simp [aP] at h
 | succ f =>
   unfold aP at h
   rw [hk] at h
   cases d <;> simp only at h <;> try (cases h; done)
   . cases h; exact .inl rfl
   . rename_i elems sp
     simp only [Option.map_eq_some_iff] at h
     obtain ⟨l, h3, h4⟩ := h
     exact .inr ⟨f, elems, sp, l, rfl, rfl, h3, h4.symm⟩
theorem Bz {fs : List (Nat × TypeId)} (hk : (ti t).k = .struct fs) (h : aP ti f t d = some xs) : ∃ f' parts xss, f = f' + 1 ∧ d = .agg parts ∧ (parts : List (DataW H)).length = fs.length ∧ (fs.zip parts).mapM (fun p => aP ti f' p.1.2 p.2) = some xss ∧ xs = xss.flatten := by
 cases f with
 | zero => simp [aP] at h
 | succ f =>
   unfold aP at h
   rw [hk] at h
   cases d <;> simp only at h <;> try (cases h; done)
   rename_i parts
   cases hb : Nat.beq fs.length parts.length with
   | false => rw [hb] at h; cases h
   | true =>
     rw [hb] at h
     simp only [cond_true, Option.map_eq_some_iff] at h
     obtain ⟨xss, h2, h3⟩ := h
     exact ⟨f, parts, xss, rfl, rfl, (Nat.eq_of_beq_eq_true hb).symm, h2, h3.symm⟩
theorem B8 {t : TypeId} {ds : List (DataW H)} {xs : List V} (h : jo ti [t] ds xs) : ∃ d x, ds = [d] ∧ xs = [x] ∧ IsD ti t d x := by
 match ds, xs, h with
 | [d], [x], h => exact ⟨d, x, rfl, rfl, h.1⟩
 | [], [], h => exact h.elim
 | [], _ :: _, h => exact h.elim
 | [_], [], h => exact h.elim
 | [_], _ :: _ :: _, h => exact h.2.elim
 | _ :: _ :: _, [], h => exact h.elim
 | _ :: _ :: _, _ :: _, h => exact absurd h.2 (by simp [jo])
end
end Go.VG
