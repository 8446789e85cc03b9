/-
  A part of the proof.
-/
import Derived.Test.YtipejldppicijaaGreatDoorCU
set_option linter.unusedSimpArgs false
set_option linter.unusedVariables false
set_option maxHeartbeats 4000000
namespace Go.Proofs.YtipejldppicijaaGreatDoor
open Go Go.VG
set_option maxRecDepth 100000
def iw : Nat → Nat → List UInt8
 | 0, u => [.ofNat u]
 | k + 1, u => if u < 128 then [.ofNat u] else .ofNat (128 + u % 128) :: iw k (u / 128)
def aF (u : Nat) : List UInt8 := iw u u
theorem ua : ∀ (k j u : Nat), u ≤ k → u ≤ j → iw k u = iw j u
 | 0, 0, u, _, _ => rfl
 | 0, j + 1, u, h, _ => by rw [iw, iw, if_pos (by omega)]
 | k + 1, 0, u, _, h => by rw [iw, iw, if_pos (by omega)]
 | k + 1, j + 1, u, h, h2 => by
   rw [iw, iw]
   split
   . rfl
   . rw [ua k j (u / 128) (by omega) (by omega)]
theorem n5 {u : Nat} (h : u < 128) : aF u = [.ofNat u] := by
 unfold aF
 rw [ua u (u + 1) u (Nat.le_refl _) (by omega), iw, if_pos h]
theorem r9 {u : Nat} (h : ¬ u < 128) : aF u = .ofNat (128 + u % 128) :: aF (u / 128) := by
 unfold aF
 rw [ua u (u + 1) u (Nat.le_refl _) (by omega), iw, if_neg h, ua u (u / 128) (u / 128) (by omega) (Nat.le_refl _)]
theorem Dx : ∀ (k u : Nat), u < 128 ^ (k + 1) → 1 ≤ (aF u).length ∧ (aF u).length ≤ k + 1
 | 0, u, h => by
   rw [n5 (by omega)]
   simp
 | k + 1, u, h => by
   by_cases c : u < 128
   . rw [n5 c]; simp
   . rw [r9 c]
     have := Dx k (u / 128) (by rw [Nat.pow_succ] at h; omega)
     simp only [List.length_cons]; omega
theorem dM {u : Nat} (h : u ≤ 18446744073709551615) : 1 ≤ (aF u).length ∧ (aF u).length ≤ 10 := Dx 9 u (by omega)
def cA (n : Int) : Nat := if n < 0 then (-2 * n - 1).toNat else (2 * n).toNat
theorem iz {n : Int} (h : -9223372036854775808 ≤ n ∧ n ≤ 9223372036854775807) : cA n ≤ 18446744073709551615 := by unfold cA; split <;> omega
theorem DV (k : IntKind) (j n : Nat) (hk : n < 2 ^ k.bits) (hj : 2 ^ j - 1 < 2 ^ k.bits) (hs : n % 2 ^ j ≤ k.max) (hw : ∀ m : Nat, (m : Int) ≤ k.max → k.wrap m = m) : jI k n ((2 ^ j - 1 : Nat) : Int) = ((n % 2 ^ j : Nat) : Int) := by
 show k.wrap ((BitVec.ofInt k.bits (n : Int) &&& BitVec.ofInt k.bits ((2 ^ j - 1 : Nat) : Int)).toNat : Int) = _
 rw [BitVec.ofInt_natCast, BitVec.ofInt_natCast, BitVec.toNat_and, BitVec.toNat_ofNat, BitVec.toNat_ofNat, Nat.mod_eq_of_lt hk, Nat.mod_eq_of_lt hj, Nat.and_two_pow_sub_one_eq_mod]
 exact hw _ hs
theorem BR : ∀ n : Nat, n < 256 → jf .u8 n 128 = ((128 + n % 128 : Nat) : Int) := by decide
def bO (b : Int) : Int := ((2 ^ b.toNat : Nat) : Int)
def gZ (n b : Int) : Bool := decide (-bO (b - 1) ≤ n ∧ n < bO (b - 1))
def ez (n b : Int) : Int := if gZ n b = true then n % bO b else 0
def bc (n b : Int) : Int := if gZ n b = true then 0 else 4
def la : List UInt8 := [0, 1, 2, 2, 3, 3, 3, 3, 4, 4, 4, 4, 4, 4, 4, 4, 5, 5, 5, 5, 5, 5, 5, 5, 5, 5, 5, 5, 5, 5, 5, 5, 6, 6, 6, 6, 6, 6, 6, 6, 6, 6, 6, 6, 6, 6, 6, 6, 6, 6, 6, 6, 6, 6, 6, 6, 6, 6, 6, 6, 6, 6, 6, 6, 7, 7, 7, 7, 7, 7, 7, 7, 7, 7, 7, 7, 7, 7, 7, 7, 7, 7, 7, 7, 7, 7, 7, 7, 7, 7, 7, 7, 7, 7, 7, 7, 7, 7, 7, 7, 7, 7, 7, 7, 7, 7, 7, 7, 7, 7, 7, 7, 7, 7, 7, 7, 7, 7, 7, 7, 7, 7, 7, 7, 7, 7, 7, 7, 8, 8, 8, 8, 8, 8, 8, 8, 8, 8, 8, 8, 8, 8, 8, 8, 8, 8, 8, 8, 8, 8, 8, 8, 8, 8, 8, 8, 8, 8, 8, 8, 8, 8, 8, 8, 8, 8, 8, 8, 8, 8, 8, 8, 8, 8, 8, 8, 8, 8, 8, 8, 8, 8, 8, 8, 8, 8, 8, 8, 8, 8, 8, 8, 8, 8, 8, 8, 8, 8, 8, 8, 8, 8, 8, 8, 8, 8, 8, 8, 8, 8, 8, 8, 8, 8, 8, 8, 8, 8, 8, 8, 8, 8, 8, 8, 8, 8, 8, 8, 8, 8, 8, 8, 8, 8, 8, 8, 8, 8, 8, 8, 8, 8, 8, 8, 8, 8, 8, 8, 8, 8, 8, 8, 8, 8, 8, 8]
def q9 (u : Nat) : Nat := if u ≥ 256 then 8 + (la.getD (u / 256) 0).toNat else (la.getD u 0).toNat
def qa (u : Nat) : Nat := if u ≥ 65536 then 16 + q9 (u / 65536) else q9 u
def o4 (u : Nat) : Nat := if u ≥ 4294967296 then 32 + qa (u / 4294967296) else qa u
theorem se : ∀ i, (la.getD i 0).toNat ≤ 8 := by
 intro i
 have h : ∀ x ∈ la, x.toNat ≤ 8 := by decide
 rw [List.getD_eq_getElem?_getD]
 cases e : la[i]? with
 | none => simp
 | some x => exact h x (List.mem_of_getElem? e)
theorem Bj (u : Nat) : o4 u ≤ 64 := by
 have := se
 have h1 : ∀ u, q9 u ≤ 16 := fun u => by unfold q9; split <;> (have := se (u / 256); have := se u; omega)
 have h2 : ∀ u, qa u ≤ 32 := fun u => by unfold qa; split <;> (have := h1 (u / 65536); have := h1 u; omega)
 unfold o4; split <;> (have := h2 (u / 4294967296); have := h2 u; omega)
theorem Kj {l : List UInt8} (h : l = la) {n : Nat} (hn : n < 256) : l.getD (IntKind.u8.wrap (n : Int)).toNat 0 = la.getD n 0 := by
 rw [h, show (IntKind.u8.wrap (n : Int)).toNat = n by (simp (discharger := omega) only [wR]; omega)]
theorem GZ (q : Int) (hp : 0 ≤ q ∧ q ≤ 18446744073709551615) : OK 159 ([.int .u64 q]) ([]) (.int .i64 (o4 q.toNat : Nat)) (none) := by
 refine af (C := cx []) (ah trivial) (fn := Tryz.f159) rfl rfl rfl rfl fun hw hs => ?_
 obtain ⟨u, rfl⟩ := Int.eq_ofNat_of_zero_le hp.1
 rw [Int.toNat_natCast]
 have h32 : ∀ n : Nat, bn .u64 n 32 = ((n / 4294967296 : Nat) : Int) := fun n => l4 .u64 n 32
 have h16 : ∀ n : Nat, bn .u64 n 16 = ((n / 65536 : Nat) : Int) := fun n => l4 .u64 n 16
 have h8 : ∀ n : Nat, bn .u64 n 8 = ((n / 256 : Nat) : Int) := fun n => l4 .u64 n 8
 have hb := se
 repeat' ((conv => whnf); first | apply a9 | (apply al <;> intro h) | with_reducible refine iK ?_ fun hc => ?_)
 all_goals try conv => whnf
 all_goals try (refine a8.mk ?_; try dsimp only)
 all_goals (try simp only [h32, h16, h8] at *)
 all_goals first
  | (show (0 : Int) ≤ _; (first | omega | (simp (discharger := omega) only [wR]; omega)))
  | (refine Nat.lt_of_lt_of_le (m := 256) ?_ (Nat.le_of_eq rfl); (simp (discharger := omega) only [wR]; omega))
  | skip
 all_goals
  unfold o4 qa q9
  repeat (first | rw [if_pos (by omega)] | rw [if_neg (by omega)])
  refine a7.mk [] ?_ <;> (repeat' first | trivial | apply ab | apply au)
  rw [Kj]
  . generalize hk : (la.getD _ 0).toNat = k
    have hk8 : k ≤ 8 := hk ▸ hb _
    (simp (discharger := omega) only [wR]; omega)
  . rfl
  . omega
def xa : Sm := fun args σ => match args, σ with
 | [.int .u64 q], [] => some (0 ≤ q ∧ q ≤ 18446744073709551615, .int .i64 (o4 q.toNat : Nat), none)
 | _, _ => none
theorem Je : aa 159 xa := by
 intro args sg pre x r he hp
 unfold xa at he
 split at he <;> cases he
 . exact GZ (hp := hp) ..
def oy (u : Nat) : Nat := ((max (o4 u) 1) + 6) / 7
theorem CD (u : Nat) : 1 ≤ oy u ∧ oy u ≤ 10 := by have := Bj u; unfold oy; omega
theorem I5 (u : Int) (hp : 0 ≤ u ∧ u ≤ 18446744073709551615) : OK 148 ([.int .u64 u]) ([]) (.int .i64 (oy u.toNat : Nat)) (none) := by
 refine af (C := cx [(159, xa)]) (ah ⟨Je, trivial⟩) (fn := Tryz.f148) rfl rfl rfl rfl fun hw hs => ?_
 obtain ⟨n, rfl⟩ := Int.eq_ofNat_of_zero_le hp.1
 rw [Int.toNat_natCast]
 have := Bj n
 repeat' ((conv => whnf); apply a9)
 all_goals try conv => whnf
 all_goals try (refine a8.mk ?_; try dsimp only)
 all_goals first | refine stay ?_ | trivial | skip
 unfold oy
 refine a7.mk [] ?_ <;> (repeat' first | trivial | apply ab | apply au)
 simp only [Int.toNat_natCast]
 split <;> (simp (discharger := omega) only [wR]; omega)
def tK : Sm := fun args σ => match args, σ with
 | [.int .u64 u], [] => some (0 ≤ u ∧ u ≤ 18446744073709551615, .int .i64 (oy u.toNat : Nat), none)
 | _, _ => none
theorem AW : aa 148 tK := by
 intro args sg pre x r he hp
 unfold tK at he
 split at he <;> cases he
 . exact I5 (hp := hp) ..
theorem I2 (l : List V) (u : Int) (hp : (0 ≤ u ∧ u ≤ 18446744073709551615) ∧ l.length ≤ 2000000000) : OK 116 ([.buf 0, .int .u64 u]) ([.buf 1 0 l]) (.buf 1) (some [.buf 1 0 l, .buf 1 0 (l ++ bl (aF u.toNat))]) := by
 refine af (C := cx [(148, tK)]) (ah ⟨AW, trivial⟩) (fn := Tryz.f116) rfl rfl rfl rfl fun hw hs => ?_
 obtain ⟨hp, hq⟩ := hp
 obtain ⟨n, rfl⟩ := Int.eq_ofNat_of_zero_le hp.1
 rw [Int.toNat_natCast]
 have hz := CD n
 have hv := dM (u := n) (by omega)
 repeat' ((conv => whnf); apply a9)
 all_goals try conv => whnf
 all_goals try (refine a8.mk ?_; try dsimp only)
 all_goals first | refine stay ?_ | trivial | (simp (discharger := omega) [-List.getD_eq_getElem?_getD, wR] <;> omega) | skip
 refine bd.mk (Nat × List UInt8) (fun | (w, o) => w ≤ 18446744073709551615 ∧ aF n = o ++ aF w) (fun | (w, o) => ⟨32, [(0, .buf 0), (1, .int .u64 w), (4, .list true 0 []), (5, .buf 1)], [.buf 1 0 l, .buf 1 0 (l ++ bl o)], [1]⟩) (fun x => x.1) [] (n, []) ⟨by omega, rfl⟩ ?_ (fun ⟨w, o⟩ ⟨hw, he⟩ _ _ => ?_)
 . refine Go.VG.Sub.mk rfl ?_ ?_ ?_ ?_ <;> (repeat' first | trivial | apply ab | apply aE)
   simp [bl]
 have hs7 : bn .u64 w 7 = ((w / 128 : Nat) : Int) := l4 .u64 w 7
 have ho := bN o
 have hvw := dM hw
 have hel := congrArg List.length he
 rw [List.length_append] at hel
 have ob : jf .u8 (IntKind.u8.wrap w) 128 = (((UInt8.ofNat (128 + w % 128)).toNat : Nat) : Int) := by
  rw [show IntKind.u8.wrap (w : Int) = ((w % 256 : Nat) : Int) by rw [iZ]; omega, BR _ (by omega), UInt8.toNat_ofNat']
  omega
 have on : IntKind.u8.wrap w = (((UInt8.ofNat w).toNat : Nat) : Int) := by rw [iZ, UInt8.toNat_ofNat']; omega
 repeat' ((conv => whnf); first | apply a9 | (apply al <;> intro h))
 all_goals try conv => whnf
 all_goals try (refine a8.mk ?_; try dsimp only)
 all_goals first | refine stay ?_ | trivial | (simp only [aW]; omega) | skip
 . refine ⟨[], (w / 128, o ++ [.ofNat (128 + w % 128)]), ⟨by omega, by rw [he, r9 (by omega)]; simp⟩, ?_, by show w / 128 < w; omega⟩
   refine Go.VG.Sub.mk rfl ?_ ?_ ?_ ?_ <;> (repeat' first | trivial | apply ab | apply au | apply aE)
   rw [cN, List.append_assoc]; simp [bl, bv, ob]
 . rw [he, n5 (by omega)]
   refine a7.mk [] ?_ <;> (repeat' first | trivial | apply ab | apply aE)
   rw [cN, List.append_assoc]; simp [bl, bv, on]
theorem zr (c : Bool) (l : List V) (u : Int) (hp : (0 ≤ u ∧ u ≤ 18446744073709551615) ∧ l.length ≤ 2000000000) : OK 116 ([.list c 1 l, .int .u64 u]) ([]) (.buf 0) (some [.buf 1 0 (l ++ bl (aF u.toNat))]) := by
 refine af (C := cx [(148, tK)]) (ah ⟨AW, trivial⟩) (fn := Tryz.f116) rfl rfl rfl rfl fun hw hs => ?_
 obtain ⟨hp, hq⟩ := hp
 obtain ⟨n, rfl⟩ := Int.eq_ofNat_of_zero_le hp.1
 rw [Int.toNat_natCast]
 have hz := CD n
 have hv := dM (u := n) (by omega)
 repeat' ((conv => whnf); apply a9)
 all_goals try conv => whnf
 all_goals try (refine a8.mk ?_; try dsimp only)
 all_goals first | refine stay ?_ | trivial | (simp (discharger := omega) [-List.getD_eq_getElem?_getD, wR] <;> omega) | skip
 refine bd.mk (Nat × List UInt8) (fun | (w, o) => w ≤ 18446744073709551615 ∧ aF n = o ++ aF w) (fun | (w, o) => ⟨32, [(0, .list c 1 l), (1, .int .u64 w), (4, .list true 0 []), (5, .buf 0)], [.buf 1 0 (l ++ bl o)], [0]⟩) (fun x => x.1) [] (n, []) ⟨by omega, rfl⟩ ?_ (fun ⟨w, o⟩ ⟨hw, he⟩ _ _ => ?_)
 . refine Go.VG.Sub.mk rfl ?_ ?_ ?_ ?_ <;> (repeat' first | trivial | apply ab | apply aE)
   simp [bl]
 have hs7 : bn .u64 w 7 = ((w / 128 : Nat) : Int) := l4 .u64 w 7
 have ho := bN o
 have hvw := dM hw
 have hel := congrArg List.length he
 rw [List.length_append] at hel
 have ob : jf .u8 (IntKind.u8.wrap w) 128 = (((UInt8.ofNat (128 + w % 128)).toNat : Nat) : Int) := by
  rw [show IntKind.u8.wrap (w : Int) = ((w % 256 : Nat) : Int) by rw [iZ]; omega, BR _ (by omega), UInt8.toNat_ofNat']
  omega
 have on : IntKind.u8.wrap w = (((UInt8.ofNat w).toNat : Nat) : Int) := by rw [iZ, UInt8.toNat_ofNat']; omega
 repeat' ((conv => whnf); first | apply a9 | (apply al <;> intro h))
 all_goals try conv => whnf
 all_goals try (refine a8.mk ?_; try dsimp only)
 all_goals first | refine stay ?_ | trivial | (simp only [aW]; omega) | skip
 . refine ⟨[], (w / 128, o ++ [.ofNat (128 + w % 128)]), ⟨by omega, by rw [he, r9 (by omega)]; simp⟩, ?_, by show w / 128 < w; omega⟩
   refine Go.VG.Sub.mk rfl ?_ ?_ ?_ ?_ <;> (repeat' first | trivial | apply ab | apply au | apply aE)
   rw [cN, List.append_assoc]; simp [bl, bv, ob]
 . rw [he, n5 (by omega)]
   refine a7.mk [] ?_ <;> (repeat' first | trivial | apply ab | apply aE)
   rw [cN, List.append_assoc]; simp [bl, bv, on]
theorem I3 (z : Nat) (u : Int) (hp : 0 ≤ u ∧ u ≤ 18446744073709551615) : OK 116 ([.list true z [], .int .u64 u]) ([]) (.buf 0) (some [.buf 1 0 (bl (aF u.toNat))]) := by
 exact (zr true [] u ⟨hp, by simp⟩).args (aq.cons (Wk.nil (.inl rfl)) (aq.refl _))
def oE : Sm := fun args σ => match args, σ with
 | [.buf 0, .int .u64 u], [.buf 1 0 l] => some ((0 ≤ u ∧ u ≤ 18446744073709551615) ∧ l.length ≤ 2000000000, .buf 1, some [.buf 1 0 l, .buf 1 0 (l ++ bl (aF u.toNat))])
 | [.list c 1 l, .int .u64 u], [] => some ((0 ≤ u ∧ u ≤ 18446744073709551615) ∧ l.length ≤ 2000000000, .buf 0, some [.buf 1 0 (l ++ bl (aF u.toNat))])
 | [.list true z [], .int .u64 u], [] => some (0 ≤ u ∧ u ≤ 18446744073709551615, .buf 0, some [.buf 1 0 (bl (aF u.toNat))])
 | _, _ => none
theorem s6 : aa 116 oE := by
 intro args sg pre x r he hp
 unfold oE at he
 split at he <;> cases he
 . exact I2 (hp := hp) ..
 . exact zr (hp := hp) ..
 . exact I3 (hp := hp) ..
theorem N7 {n : Int} (h : -9223372036854775808 ≤ n ∧ n < 0) : pF .u64 (if IntKind.u64.signed = true then -1 else IntKind.u64.max) (IntKind.u64.wrap n) = -n - 1 := by
 rw [if_neg (by decide)]
 have e : IntKind.u64.wrap n = ((n + 18446744073709551616).toNat : Int) := by rw [dN]; omega
 rw [e]
 show IntKind.u64.wrap ((BitVec.ofInt 64 18446744073709551615 ^^^ BitVec.ofInt 64 _).toNat : Int) = _
 rw [BitVec.ofInt_natCast, show BitVec.ofInt 64 18446744073709551615 = BitVec.allOnes 64 by decide, BitVec.allOnes_xor, BitVec.toNat_not, BitVec.toNat_ofNat, Nat.mod_eq_of_lt (by omega), dN]
 omega
theorem Nb {n : Int} (h : -9223372036854775808 ≤ n ∧ n ≤ 9223372036854775807) : pF .u64 (jg .u64 (IntKind.u64.wrap n) 1) (IntKind.u64.wrap (bn .i64 n 63)) = cA n := by
 have e1 : jg .u64 (IntKind.u64.wrap n) 1 = (if n < 0 then 2 * n + 18446744073709551616 else 2 * n) := by
  show IntKind.u64.wrap (IntKind.u64.wrap n * 2) = _
  rw [dN, dN]; split <;> omega
 have e2 : bn .i64 n 63 = if n < 0 then -1 else 0 := by
  show n.fdiv 9223372036854775808 = _
  rw [Int.fdiv_eq_ediv_of_nonneg _ (by decide)]
  split <;> omega
 rw [e1, e2]
 unfold cA
 by_cases c : n < 0
 . rw [if_pos c, if_pos c, if_pos c]
   have e : 2 * n + 18446744073709551616 = ((2 * n + 18446744073709551616).toNat : Int) := by omega
   rw [e]
   show IntKind.u64.wrap ((BitVec.ofInt 64 _ ^^^ BitVec.ofInt 64 18446744073709551615).toNat : Int) = _
   rw [BitVec.ofInt_natCast, show BitVec.ofInt 64 18446744073709551615 = BitVec.allOnes 64 by decide, BitVec.xor_allOnes, BitVec.toNat_not, BitVec.toNat_ofNat, Nat.mod_eq_of_lt (by omega), dN]
   omega
 . rw [if_neg c, if_neg c, if_neg c]
   have e : 2 * n = ((2 * n).toNat : Int) := by omega
   rw [e]
   show IntKind.u64.wrap ((BitVec.ofInt 64 _ ^^^ BitVec.ofInt 64 0).toNat : Int) = _
   rw [BitVec.ofInt_natCast, show BitVec.ofInt 64 0 = 0#64 by decide, BitVec.xor_zero, BitVec.toNat_ofNat, Nat.mod_eq_of_lt (by omega), dN]
   omega
theorem Ib (n : Int) (hp : True) : OK 118 ([.int .i64 n]) ([]) (.int .u64 (cA n)) (none) := by
 refine af (C := cx []) (ah trivial) (fn := Tryz.f118) rfl rfl rfl rfl fun hw hs => ?_
 repeat' ((conv => whnf); apply a9)
 all_goals try conv => whnf
 all_goals try (refine a8.mk ?_; try dsimp only)
 all_goals first | refine stay ?_ | trivial | skip
 refine a7.mk [] ?_ <;> (repeat' first | trivial | apply ab | apply au)
 exact Nb hw.1
def tO : Sm := fun args σ => match args, σ with
 | [.int .i64 n], [] => some (True, .int .u64 (cA n), none)
 | _, _ => none
theorem B0 : aa 118 tO := by
 intro args sg pre x r he hp
 unfold tO at he
 split at he <;> cases he
 . exact Ib (hp := hp) ..
theorem H5 (n : Int) (hp : True) : OK 139 ([.int .i64 n]) ([]) (.int .u64 (cA n)) (none) := by
 refine af (C := cx []) (ah trivial) (fn := Tryz.f139) rfl rfl rfl rfl fun hw hs => ?_
 have hn : -9223372036854775808 ≤ n ∧ n ≤ 9223372036854775807 := hw.1
 repeat' ((conv => whnf); (apply al <;> intro h))
 all_goals try conv => whnf
 all_goals try (refine a8.mk ?_; try dsimp only)
 all_goals try refine stay ?_
 all_goals
  unfold cA
  first | rw [if_pos (by assumption)] | rw [if_neg (by assumption)]
  refine a7.mk [] ?_ <;> (repeat' first | trivial | apply ab | apply au)
  try rw [N7 (by omega)]
  (simp (discharger := omega) only [wR]; omega)
def tn : Sm := fun args σ => match args, σ with
 | [.int .i64 n], [] => some (True, .int .u64 (cA n), none)
 | _, _ => none
theorem AE : aa 139 tn := by
 intro args sg pre x r he hp
 unfold tn at he
 split at he <;> cases he
 . exact H5 (hp := hp) ..
def sL (k : Nat) : Sm := fun args σ => match args, σ with
 | [.int .u64 q], [] => some (0 ≤ q ∧ q < (k : Int) ∧ q ≤ 18446744073709551615, .str (aF q.toNat), none)
 | _, _ => none
theorem Ae : ∀ k : Nat, aa 138 (sL k)
 | 0 => by
   intro args sg pre x r he hp
   unfold sL at he
   split at he <;> cases he
   omega
 | k + 1 => by
   intro args sg pre x r he hp
   unfold sL at he
   split at he <;> cases he
   obtain ⟨h0, h1, h2⟩ := hp
   obtain ⟨n, rfl⟩ := Int.eq_ofNat_of_zero_le h0
   refine af (C := cx [(138, sL k)]) (ah ⟨Ae k, trivial⟩) (fn := Tryz.f138) rfl rfl rfl rfl fun hw _ => ?_
   have hd : IntKind.u64.wrap ((n : Int).tdiv 128) = ((n / 128 : Nat) : Int) := by (simp (discharger := omega) only [wR]; omega)
   have hv := dM (u := n / 128) (by omega)
   rw [Int.toNat_natCast]
   repeat' ((conv => whnf); first | apply a9 | (apply al <;> intro h) | apply i6)
   all_goals try conv => whnf
   all_goals try (refine a8.mk ?_; try dsimp only)
   all_goals (try simp only [hd, Int.toNat_natCast] at *)
   all_goals first | refine stay ?_ | trivial | omega | (simp (discharger := omega) only [wR]; omega) | (simp only [aW]; omega) | skip
   . rw [n5 (by omega)]
     refine a7.mk [] ?_ <;> (repeat' first | trivial | apply ab | apply aV | apply aM)
     rw [show IntKind.u8.wrap (n : Int) = ((n : Nat) : Int) by rw [iZ]; omega]
     rfl
   . rw [r9 (by omega)]
     refine a7.mk [] ?_ <;> (repeat' first | trivial | apply ab | apply aV | apply aM)
     rw [show IntKind.u8.wrap (IntKind.u64.wrap (128 + (n : Int).tmod 128)) = ((128 + n % 128 : Nat) : Int) by (simp (discharger := omega) only [wR]; omega)]
     rfl
theorem H7 (q : Int) (hp : 0 ≤ q ∧ q ≤ 18446744073709551615) : OK 138 ([.int .u64 q]) ([]) (.str (aF q.toNat)) (none) := by
 exact Ae (q.toNat + 1) _ _ _ _ _ rfl ⟨hp.1, by omega, hp.2⟩
def qS : Sm := fun args σ => match args, σ with
 | [.int .u64 q], [] => some (0 ≤ q ∧ q ≤ 18446744073709551615, .str (aF q.toNat), none)
 | _, _ => none
theorem vt : aa 138 qS := by
 intro args sg pre x r he hp
 unfold qS at he
 split at he <;> cases he
 . exact H7 (hp := hp) ..
end Go.Proofs.YtipejldppicijaaGreatDoor
