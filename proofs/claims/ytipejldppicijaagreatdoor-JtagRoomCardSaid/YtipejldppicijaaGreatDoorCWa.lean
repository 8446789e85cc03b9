/-
  A part of the proof.
-/
import Derived.Test.YtipejldppicijaaGreatDoorCU
set_option linter.unusedSimpArgs false
set_option linter.unusedVariables false
set_option maxHeartbeats 4000000
namespace Go.Proofs.YtipejldppicijaaGreatDoor
open Go Go.VG
set_option maxRecDepth 100000
def gH : Nat → Nat → List UInt8
 | 0, u => [.ofNat u]
 | k + 1, u => if u < 128 then [.ofNat u] else .ofNat (128 + u % 128) :: gH k (u / 128)
def aY (u : Nat) : List UInt8 := gH u u
theorem rT : ∀ (k j u : Nat), u ≤ k → u ≤ j → gH k u = gH j u
 | 0, 0, u, _, _ => rfl
 | 0, j + 1, u, h, _ => by rw [gH, gH, if_pos (by omega)]
 | k + 1, 0, u, _, h => by rw [gH, gH, if_pos (by omega)]
 | k + 1, j + 1, u, h, h2 => by
   rw [gH, gH]
   split
   . rfl
   . rw [rT k j (u / 128) (by omega) (by omega)]
theorem rU {u : Nat} (h : u < 128) : aY u = [.ofNat u] := by
 unfold aY
 rw [rT u (u + 1) u (Nat.le_refl _) (by omega), gH, if_pos h]
theorem vt {u : Nat} (h : ¬ u < 128) : aY u = .ofNat (128 + u % 128) :: aY (u / 128) := by
 unfold aY
 rw [rT u (u + 1) u (Nat.le_refl _) (by omega), gH, if_neg h, rT u (u / 128) (u / 128) (by omega) (Nat.le_refl _)]
theorem Al : ∀ (k u : Nat), u < 128 ^ (k + 1) → 1 ≤ (aY u).length ∧ (aY u).length ≤ k + 1
 | 0, u, h => by
   rw [rU (by omega)]
   simp
 | k + 1, u, h => by
   by_cases c : u < 128
   . rw [rU c]; simp
   . rw [vt c]
     have := Al k (u / 128) (by rw [Nat.pow_succ] at h; omega)
     simp only [List.length_cons]; omega
theorem fh {u : Nat} (h : u ≤ 18446744073709551615) : 1 ≤ (aY u).length ∧ (aY u).length ≤ 10 := Al 9 u (by omega)
def fj (n : Int) : Nat := if n < 0 then (-2 * n - 1).toNat else (2 * n).toNat
theorem nA {n : Int} (h : -9223372036854775808 ≤ n ∧ n ≤ 9223372036854775807) : fj n ≤ 18446744073709551615 := by unfold fj; split <;> omega
theorem AF (k : IntKind) (j n : Nat) (hk : n < 2 ^ k.bits) (hj : 2 ^ j - 1 < 2 ^ k.bits) (hs : n % 2 ^ j ≤ k.max) (hw : ∀ m : Nat, (m : Int) ≤ k.max → k.wrap m = m) : iY k n ((2 ^ j - 1 : Nat) : Int) = ((n % 2 ^ j : Nat) : Int) := by
 show k.wrap ((BitVec.ofInt k.bits (n : Int) &&& BitVec.ofInt k.bits ((2 ^ j - 1 : Nat) : Int)).toNat : Int) = _
 rw [BitVec.ofInt_natCast, BitVec.ofInt_natCast, BitVec.toNat_and, BitVec.toNat_ofNat, BitVec.toNat_ofNat, Nat.mod_eq_of_lt hk, Nat.mod_eq_of_lt hj, Nat.and_two_pow_sub_one_eq_mod]
 exact hw _ hs
theorem yO : ∀ n : Nat, n < 256 → ij .u8 n 128 = ((128 + n % 128 : Nat) : Int) := by decide
def dN (b : Int) : Int := ((2 ^ b.toNat : Nat) : Int)
def nZ (n b : Int) : Bool := decide (-dN (b - 1) ≤ n ∧ n < dN (b - 1))
def ib (n b : Int) : Int := if nZ n b = true then n % dN b else 0
def bJ (n b : Int) : Int := if nZ n b = true then 0 else 4
def jY : List UInt8 := [0, 1, 2, 2, 3, 3, 3, 3, 4, 4, 4, 4, 4, 4, 4, 4, 5, 5, 5, 5, 5, 5, 5, 5, 5, 5, 5, 5, 5, 5, 5, 5, 6, 6, 6, 6, 6, 6, 6, 6, 6, 6, 6, 6, 6, 6, 6, 6, 6, 6, 6, 6, 6, 6, 6, 6, 6, 6, 6, 6, 6, 6, 6, 6, 7, 7, 7, 7, 7, 7, 7, 7, 7, 7, 7, 7, 7, 7, 7, 7, 7, 7, 7, 7, 7, 7, 7, 7, 7, 7, 7, 7, 7, 7, 7, 7, 7, 7, 7, 7, 7, 7, 7, 7, 7, 7, 7, 7, 7, 7, 7, 7, 7, 7, 7, 7, 7, 7, 7, 7, 7, 7, 7, 7, 7, 7, 7, 7, 8, 8, 8, 8, 8, 8, 8, 8, 8, 8, 8, 8, 8, 8, 8, 8, 8, 8, 8, 8, 8, 8, 8, 8, 8, 8, 8, 8, 8, 8, 8, 8, 8, 8, 8, 8, 8, 8, 8, 8, 8, 8, 8, 8, 8, 8, 8, 8, 8, 8, 8, 8, 8, 8, 8, 8, 8, 8, 8, 8, 8, 8, 8, 8, 8, 8, 8, 8, 8, 8, 8, 8, 8, 8, 8, 8, 8, 8, 8, 8, 8, 8, 8, 8, 8, 8, 8, 8, 8, 8, 8, 8, 8, 8, 8, 8, 8, 8, 8, 8, 8, 8, 8, 8, 8, 8, 8, 8, 8, 8, 8, 8, 8, 8, 8, 8, 8, 8, 8, 8, 8, 8, 8, 8, 8, 8, 8, 8]
def oF (u : Nat) : Nat := if u ≥ 256 then 8 + (jY.getD (u / 256) 0).toNat else (jY.getD u 0).toNat
def oG (u : Nat) : Nat := if u ≥ 65536 then 16 + oF (u / 65536) else oF u
def mV (u : Nat) : Nat := if u ≥ 4294967296 then 32 + oG (u / 4294967296) else oG u
theorem qN : ∀ i, (jY.getD i 0).toNat ≤ 8 := by
 intro i
 have h : ∀ x ∈ jY, x.toNat ≤ 8 := by decide
 rw [List.getD_eq_getElem?_getD]
 cases e : jY[i]? with
 | none => simp
 | some x => exact h x (List.mem_of_getElem? e)
theorem ym (u : Nat) : mV u ≤ 64 := by
 have := qN
 have h1 : ∀ u, oF u ≤ 16 := fun u => by unfold oF; split <;> (have := qN (u / 256); have := qN u; omega)
 have h2 : ∀ u, oG u ≤ 32 := fun u => by unfold oG; split <;> (have := h1 (u / 65536); have := h1 u; omega)
 unfold mV; split <;> (have := h2 (u / 4294967296); have := h2 u; omega)
theorem G6 {l : List UInt8} (h : l = jY) {n : Nat} (hn : n < 256) : l.getD (IntKind.u8.wrap (n : Int)).toNat 0 = jY.getD n 0 := by
 rw [h, show (IntKind.u8.wrap (n : Int)).toNat = n by (simp (discharger := omega) only [wR]; omega)]
theorem Dh (q : Int) (hp : 0 ≤ q ∧ q ≤ 18446744073709551615) : OK 159 ([.int .u64 q]) ([]) (.int .i64 (mV q.toNat : Nat)) (none) := by
 refine ai (C := cx []) (aj trivial) (fn := Tryz.f159) rfl rfl rfl rfl fun hw hs => ?_
 obtain ⟨u, rfl⟩ := Int.eq_ofNat_of_zero_le hp.1
 rw [Int.toNat_natCast]
 have h32 : ∀ n : Nat, ba .u64 n 32 = ((n / 4294967296 : Nat) : Int) := fun n => jQ .u64 n 32
 have h16 : ∀ n : Nat, ba .u64 n 16 = ((n / 65536 : Nat) : Int) := fun n => jQ .u64 n 16
 have h8 : ∀ n : Nat, ba .u64 n 8 = ((n / 256 : Nat) : Int) := fun n => jQ .u64 n 8
 have hb := qN
 repeat' ((conv => whnf); first | apply a9 | (apply ao <;> intro h) | with_reducible refine gR ?_ fun hc => ?_)
 all_goals try conv => whnf
 all_goals try (refine a8.mk ?_; try dsimp only)
 all_goals (try simp only [h32, h16, h8] at *)
 all_goals first
  | (show (0 : Int) ≤ _; (first | omega | (simp (discharger := omega) only [wR]; omega)))
  | (refine Nat.lt_of_lt_of_le (m := 256) ?_ (Nat.le_of_eq rfl); (simp (discharger := omega) only [wR]; omega))
  | skip
 all_goals
  unfold mV oG oF
  repeat (first | rw [if_pos (by omega)] | rw [if_neg (by omega)])
  refine a7.mk [] ?_ <;> (repeat' first | trivial | apply ah | apply ax)
  rw [G6]
  . generalize hk : (jY.getD _ 0).toNat = k
    have hk8 : k ≤ 8 := hk ▸ hb _
    (simp (discharger := omega) only [wR]; omega)
  . rfl
  . omega
def uL : Sm := fun args σ => match args, σ with
 | [.int .u64 q], [] => some (0 ≤ q ∧ q ≤ 18446744073709551615, .int .i64 (mV q.toNat : Nat), none)
 | _, _ => none
theorem Fc : aa 159 uL := by
 intro args sg pre x r he hp
 unfold uL at he
 split at he <;> cases he
 . exact Dh (hp := hp) ..
def nh (u : Nat) : Nat := ((max (mV u) 1) + 6) / 7
theorem zA (u : Nat) : 1 ≤ nh u ∧ nh u ≤ 10 := by have := ym u; unfold nh; omega
theorem DT (u : Int) (hp : 0 ≤ u ∧ u ≤ 18446744073709551615) : OK 148 ([.int .u64 u]) ([]) (.int .i64 (nh u.toNat : Nat)) (none) := by
 refine ai (C := cx [(159, uL)]) (aj ⟨Fc, trivial⟩) (fn := Tryz.f148) rfl rfl rfl rfl fun hw hs => ?_
 obtain ⟨n, rfl⟩ := Int.eq_ofNat_of_zero_le hp.1
 rw [Int.toNat_natCast]
 have := ym n
 repeat' ((conv => whnf); apply a9)
 all_goals try conv => whnf
 all_goals try (refine a8.mk ?_; try dsimp only)
 all_goals first | refine stay ?_ | trivial | skip
 unfold nh
 refine a7.mk [] ?_ <;> (repeat' first | trivial | apply ah | apply ax)
 simp only [Int.toNat_natCast]
 split <;> (simp (discharger := omega) only [wR]; omega)
def rC : Sm := fun args σ => match args, σ with
 | [.int .u64 u], [] => some (0 ≤ u ∧ u ≤ 18446744073709551615, .int .i64 (nh u.toNat : Nat), none)
 | _, _ => none
theorem y0 : aa 148 rC := by
 intro args sg pre x r he hp
 unfold rC at he
 split at he <;> cases he
 . exact DT (hp := hp) ..
theorem DQ (l : List V) (u : Int) (hp : (0 ≤ u ∧ u ≤ 18446744073709551615) ∧ l.length ≤ 2000000000) : OK 116 ([.buf 0, .int .u64 u]) ([.buf 1 0 l]) (.buf 1) (some [.buf 1 0 l, .buf 1 0 (l ++ bl (aY u.toNat))]) := by
 refine ai (C := cx [(148, rC)]) (aj ⟨y0, trivial⟩) (fn := Tryz.f116) rfl rfl rfl rfl fun hw hs => ?_
 obtain ⟨hp, hq⟩ := hp
 obtain ⟨n, rfl⟩ := Int.eq_ofNat_of_zero_le hp.1
 rw [Int.toNat_natCast]
 have hz := zA n
 have hv := fh (u := n) (by omega)
 repeat' ((conv => whnf); apply a9)
 all_goals try conv => whnf
 all_goals try (refine a8.mk ?_; try dsimp only)
 all_goals first | refine stay ?_ | trivial | (simp (discharger := omega) [-List.getD_eq_getElem?_getD, wR] <;> omega) | skip
 refine br.mk (Nat × List UInt8) (fun | (w, o) => w ≤ 18446744073709551615 ∧ aY n = o ++ aY w) (fun | (w, o) => ⟨32, [(0, .buf 0), (1, .int .u64 w), (4, .list true 0 []), (5, .buf 1)], [.buf 1 0 l, .buf 1 0 (l ++ bl o)], [1]⟩) (fun x => x.1) [] (n, []) ⟨by omega, rfl⟩ ?_ (fun ⟨w, o⟩ ⟨hw, he⟩ _ _ => ?_)
 . refine Go.VG.Sub.mk rfl ?_ ?_ ?_ ?_ <;> (repeat' first | trivial | apply ah | apply aG)
   simp [bl]
 have hs7 : ba .u64 w 7 = ((w / 128 : Nat) : Int) := jQ .u64 w 7
 have ho := bC o
 have hvw := fh hw
 have hel := congrArg List.length he
 rw [List.length_append] at hel
 have ob : ij .u8 (IntKind.u8.wrap w) 128 = (((UInt8.ofNat (128 + w % 128)).toNat : Nat) : Int) := by
  rw [show IntKind.u8.wrap (w : Int) = ((w % 256 : Nat) : Int) by rw [iE]; omega, yO _ (by omega), UInt8.toNat_ofNat']
  omega
 have on : IntKind.u8.wrap w = (((UInt8.ofNat w).toNat : Nat) : Int) := by rw [iE, UInt8.toNat_ofNat']; omega
 repeat' ((conv => whnf); first | apply a9 | (apply ao <;> intro h))
 all_goals try conv => whnf
 all_goals try (refine a8.mk ?_; try dsimp only)
 all_goals first | refine stay ?_ | trivial | (simp only [aV]; omega) | skip
 . refine ⟨[], (w / 128, o ++ [.ofNat (128 + w % 128)]), ⟨by omega, by rw [he, vt (by omega)]; simp⟩, ?_, by show w / 128 < w; omega⟩
   refine Go.VG.Sub.mk rfl ?_ ?_ ?_ ?_ <;> (repeat' first | trivial | apply ah | apply ax | apply aG)
   rw [cq, List.append_assoc]; simp [bl, bv, ob]
 . rw [he, rU (by omega)]
   refine a7.mk [] ?_ <;> (repeat' first | trivial | apply ah | apply aG)
   rw [cq, List.append_assoc]; simp [bl, bv, on]
theorem wT (c : Bool) (l : List V) (u : Int) (hp : (0 ≤ u ∧ u ≤ 18446744073709551615) ∧ l.length ≤ 2000000000) : OK 116 ([.list c 1 l, .int .u64 u]) ([]) (.buf 0) (some [.buf 1 0 (l ++ bl (aY u.toNat))]) := by
 refine ai (C := cx [(148, rC)]) (aj ⟨y0, trivial⟩) (fn := Tryz.f116) rfl rfl rfl rfl fun hw hs => ?_
 obtain ⟨hp, hq⟩ := hp
 obtain ⟨n, rfl⟩ := Int.eq_ofNat_of_zero_le hp.1
 rw [Int.toNat_natCast]
 have hz := zA n
 have hv := fh (u := n) (by omega)
 repeat' ((conv => whnf); apply a9)
 all_goals try conv => whnf
 all_goals try (refine a8.mk ?_; try dsimp only)
 all_goals first | refine stay ?_ | trivial | (simp (discharger := omega) [-List.getD_eq_getElem?_getD, wR] <;> omega) | skip
 refine br.mk (Nat × List UInt8) (fun | (w, o) => w ≤ 18446744073709551615 ∧ aY n = o ++ aY w) (fun | (w, o) => ⟨32, [(0, .list c 1 l), (1, .int .u64 w), (4, .list true 0 []), (5, .buf 0)], [.buf 1 0 (l ++ bl o)], [0]⟩) (fun x => x.1) [] (n, []) ⟨by omega, rfl⟩ ?_ (fun ⟨w, o⟩ ⟨hw, he⟩ _ _ => ?_)
 . refine Go.VG.Sub.mk rfl ?_ ?_ ?_ ?_ <;> (repeat' first | trivial | apply ah | apply aG)
   simp [bl]
 have hs7 : ba .u64 w 7 = ((w / 128 : Nat) : Int) := jQ .u64 w 7
 have ho := bC o
 have hvw := fh hw
 have hel := congrArg List.length he
 rw [List.length_append] at hel
 have ob : ij .u8 (IntKind.u8.wrap w) 128 = (((UInt8.ofNat (128 + w % 128)).toNat : Nat) : Int) := by
  rw [show IntKind.u8.wrap (w : Int) = ((w % 256 : Nat) : Int) by rw [iE]; omega, yO _ (by omega), UInt8.toNat_ofNat']
  omega
 have on : IntKind.u8.wrap w = (((UInt8.ofNat w).toNat : Nat) : Int) := by rw [iE, UInt8.toNat_ofNat']; omega
 repeat' ((conv => whnf); first | apply a9 | (apply ao <;> intro h))
 all_goals try conv => whnf
 all_goals try (refine a8.mk ?_; try dsimp only)
 all_goals first | refine stay ?_ | trivial | (simp only [aV]; omega) | skip
 . refine ⟨[], (w / 128, o ++ [.ofNat (128 + w % 128)]), ⟨by omega, by rw [he, vt (by omega)]; simp⟩, ?_, by show w / 128 < w; omega⟩
   refine Go.VG.Sub.mk rfl ?_ ?_ ?_ ?_ <;> (repeat' first | trivial | apply ah | apply ax | apply aG)
   rw [cq, List.append_assoc]; simp [bl, bv, ob]
 . rw [he, rU (by omega)]
   refine a7.mk [] ?_ <;> (repeat' first | trivial | apply ah | apply aG)
   rw [cq, List.append_assoc]; simp [bl, bv, on]
theorem DR (z : Nat) (u : Int) (hp : 0 ≤ u ∧ u ≤ 18446744073709551615) : OK 116 ([.list true z [], .int .u64 u]) ([]) (.buf 0) (some [.buf 1 0 (bl (aY u.toNat))]) := by
 exact (wT true [] u ⟨hp, by simp⟩).args (aC.cons (Wk.nil (.inl rfl)) (aC.refl _))
def np : Sm := fun args σ => match args, σ with
 | [.buf 0, .int .u64 u], [.buf 1 0 l] => some ((0 ≤ u ∧ u ≤ 18446744073709551615) ∧ l.length ≤ 2000000000, .buf 1, some [.buf 1 0 l, .buf 1 0 (l ++ bl (aY u.toNat))])
 | [.list c 1 l, .int .u64 u], [] => some ((0 ≤ u ∧ u ≤ 18446744073709551615) ∧ l.length ≤ 2000000000, .buf 0, some [.buf 1 0 (l ++ bl (aY u.toNat))])
 | [.list true z [], .int .u64 u], [] => some (0 ≤ u ∧ u ≤ 18446744073709551615, .buf 0, some [.buf 1 0 (bl (aY u.toNat))])
 | _, _ => none
theorem qF : aa 116 np := by
 intro args sg pre x r he hp
 unfold np at he
 split at he <;> cases he
 . exact DQ (hp := hp) ..
 . exact wT (hp := hp) ..
 . exact DR (hp := hp) ..
theorem IT {n : Int} (h : -9223372036854775808 ≤ n ∧ n ≤ 9223372036854775807) : qy .u64 (ik .u64 (IntKind.u64.wrap n) 1) (IntKind.u64.wrap (ba .i64 n 63)) = fj n := by
 have e1 : ik .u64 (IntKind.u64.wrap n) 1 = (if n < 0 then 2 * n + 18446744073709551616 else 2 * n) := by
  show IntKind.u64.wrap (IntKind.u64.wrap n * 2) = _
  rw [eo, eo]; split <;> omega
 have e2 : ba .i64 n 63 = if n < 0 then -1 else 0 := by
  show n.fdiv 9223372036854775808 = _
  rw [Int.fdiv_eq_ediv_of_nonneg _ (by decide)]
  split <;> omega
 rw [e1, e2]
 unfold fj
 by_cases c : n < 0
 . rw [if_pos c, if_pos c, if_pos c]
   have e : 2 * n + 18446744073709551616 = ((2 * n + 18446744073709551616).toNat : Int) := by omega
   rw [e]
   show IntKind.u64.wrap ((BitVec.ofInt 64 _ ^^^ BitVec.ofInt 64 18446744073709551615).toNat : Int) = _
   rw [BitVec.ofInt_natCast, show BitVec.ofInt 64 18446744073709551615 = BitVec.allOnes 64 by decide, BitVec.xor_allOnes, BitVec.toNat_not, BitVec.toNat_ofNat, Nat.mod_eq_of_lt (by omega), eo]
   omega
 . rw [if_neg c, if_neg c, if_neg c]
   have e : 2 * n = ((2 * n).toNat : Int) := by omega
   rw [e]
   show IntKind.u64.wrap ((BitVec.ofInt 64 _ ^^^ BitVec.ofInt 64 0).toNat : Int) = _
   rw [BitVec.ofInt_natCast, show BitVec.ofInt 64 0 = 0#64 by decide, BitVec.xor_zero, BitVec.toNat_ofNat, Nat.mod_eq_of_lt (by omega), eo]
   omega
theorem DZ (n : Int) (hp : True) : OK 118 ([.int .i64 n]) ([]) (.int .u64 (fj n)) (none) := by
 refine ai (C := cx []) (aj trivial) (fn := Tryz.f118) rfl rfl rfl rfl fun hw hs => ?_
 repeat' ((conv => whnf); apply a9)
 all_goals try conv => whnf
 all_goals try (refine a8.mk ?_; try dsimp only)
 all_goals first | refine stay ?_ | trivial | skip
 refine a7.mk [] ?_ <;> (repeat' first | trivial | apply ah | apply ax)
 exact IT hw.1
def rG : Sm := fun args σ => match args, σ with
 | [.int .i64 n], [] => some (True, .int .u64 (fj n), none)
 | _, _ => none
theorem y6 : aa 118 rG := by
 intro args sg pre x r he hp
 unfold rG at he
 split at he <;> cases he
 . exact DZ (hp := hp) ..
end Go.Proofs.YtipejldppicijaaGreatDoor
