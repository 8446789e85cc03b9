/-
  A part of the proof.
-/
import Derived.Test.YtipejldppicijaaGreatDoorCU
set_option linter.unusedSimpArgs false
set_option linter.unusedVariables false
set_option maxHeartbeats 4000000
namespace Go.Proofs.YtipejldppicijaaGreatDoor
open Go Go.VG
set_option maxRecDepth 100000
def gy : Nat → Nat → List UInt8
 | 0, u => [.ofNat u]
 | k + 1, u => if u < 128 then [.ofNat u] else .ofNat (128 + u % 128) :: gy k (u / 128)
def cg (u : Nat) : List UInt8 := gy u u
theorem r7 : ∀ (k j u : Nat), u ≤ k → u ≤ j → gy k u = gy j u
 | 0, 0, u, _, _ => rfl
 | 0, j + 1, u, h, _ => by rw [gy, gy, if_pos (by omega)]
 | k + 1, 0, u, _, h => by rw [gy, gy, if_pos (by omega)]
 | k + 1, j + 1, u, h, h2 => by
   rw [gy, gy]
   split
   . rfl
   . rw [r7 k j (u / 128) (by omega) (by omega)]
theorem r8 {u : Nat} (h : u < 128) : cg u = [.ofNat u] := by
 unfold cg
 rw [r7 u (u + 1) u (Nat.le_refl _) (by omega), gy, if_pos h]
theorem uA {u : Nat} (h : ¬ u < 128) : cg u = .ofNat (128 + u % 128) :: cg (u / 128) := by
 unfold cg
 rw [r7 u (u + 1) u (Nat.le_refl _) (by omega), gy, if_neg h, r7 u (u / 128) (u / 128) (by omega) (Nat.le_refl _)]
theorem zP : ∀ (k u : Nat), u < 128 ^ (k + 1) → 1 ≤ (cg u).length ∧ (cg u).length ≤ k + 1
 | 0, u, h => by
   rw [r8 (by omega)]
   simp
 | k + 1, u, h => by
   by_cases c : u < 128
   . rw [r8 c]; simp
   . rw [uA c]
     have := zP k (u / 128) (by rw [Nat.pow_succ] at h; omega)
     simp only [List.length_cons]; omega
theorem iy {u : Nat} (h : u ≤ 18446744073709551615) : 1 ≤ (cg u).length ∧ (cg u).length ≤ 10 := zP 9 u (by omega)
def iA (n : Int) : Nat := if n < 0 then (-2 * n - 1).toNat else (2 * n).toNat
theorem re {n : Int} (h : -9223372036854775808 ≤ n ∧ n ≤ 9223372036854775807) : iA n ≤ 18446744073709551615 := by unfold iA; split <;> omega
theorem Ac (k : IntKind) (j n : Nat) (hk : n < 2 ^ k.bits) (hj : 2 ^ j - 1 < 2 ^ k.bits) (hs : n % 2 ^ j ≤ k.max) (hw : ∀ m : Nat, (m : Int) ≤ k.max → k.wrap m = m) : jL k n ((2 ^ j - 1 : Nat) : Int) = ((n % 2 ^ j : Nat) : Int) := by
 show k.wrap ((BitVec.ofInt k.bits (n : Int) &&& BitVec.ofInt k.bits ((2 ^ j - 1 : Nat) : Int)).toNat : Int) = _
 rw [BitVec.ofInt_natCast, BitVec.ofInt_natCast, BitVec.toNat_and, BitVec.toNat_ofNat, BitVec.toNat_ofNat, Nat.mod_eq_of_lt hk, Nat.mod_eq_of_lt hj, Nat.and_two_pow_sub_one_eq_mod]
 exact hw _ hs
theorem yg : ∀ n : Nat, n < 256 → i4 .u8 n 128 = ((128 + n % 128 : Nat) : Int) := by decide
def bN (b : Int) : Int := ((2 ^ b.toNat : Nat) : Int)
def iS (n b : Int) : Bool := decide (-bN (b - 1) ≤ n ∧ n < bN (b - 1))
def dU (n b : Int) : Int := if iS n b = true then n % bN b else 0
def b7 (n b : Int) : Int := if iS n b = true then 0 else 4
def jS : List UInt8 := [0, 1, 2, 2, 3, 3, 3, 3, 4, 4, 4, 4, 4, 4, 4, 4, 5, 5, 5, 5, 5, 5, 5, 5, 5, 5, 5, 5, 5, 5, 5, 5, 6, 6, 6, 6, 6, 6, 6, 6, 6, 6, 6, 6, 6, 6, 6, 6, 6, 6, 6, 6, 6, 6, 6, 6, 6, 6, 6, 6, 6, 6, 6, 6, 7, 7, 7, 7, 7, 7, 7, 7, 7, 7, 7, 7, 7, 7, 7, 7, 7, 7, 7, 7, 7, 7, 7, 7, 7, 7, 7, 7, 7, 7, 7, 7, 7, 7, 7, 7, 7, 7, 7, 7, 7, 7, 7, 7, 7, 7, 7, 7, 7, 7, 7, 7, 7, 7, 7, 7, 7, 7, 7, 7, 7, 7, 7, 7, 8, 8, 8, 8, 8, 8, 8, 8, 8, 8, 8, 8, 8, 8, 8, 8, 8, 8, 8, 8, 8, 8, 8, 8, 8, 8, 8, 8, 8, 8, 8, 8, 8, 8, 8, 8, 8, 8, 8, 8, 8, 8, 8, 8, 8, 8, 8, 8, 8, 8, 8, 8, 8, 8, 8, 8, 8, 8, 8, 8, 8, 8, 8, 8, 8, 8, 8, 8, 8, 8, 8, 8, 8, 8, 8, 8, 8, 8, 8, 8, 8, 8, 8, 8, 8, 8, 8, 8, 8, 8, 8, 8, 8, 8, 8, 8, 8, 8, 8, 8, 8, 8, 8, 8, 8, 8, 8, 8, 8, 8, 8, 8, 8, 8, 8, 8, 8, 8, 8, 8, 8, 8, 8, 8, 8, 8, 8, 8]
def nN (u : Nat) : Nat := if u ≥ 256 then 8 + (jS.getD (u / 256) 0).toNat else (jS.getD u 0).toNat
def nO (u : Nat) : Nat := if u ≥ 65536 then 16 + nN (u / 65536) else nN u
def mf (u : Nat) : Nat := if u ≥ 4294967296 then 32 + nO (u / 4294967296) else nO u
theorem pR : ∀ i, (jS.getD i 0).toNat ≤ 8 := by
 intro i
 have h : ∀ x ∈ jS, x.toNat ≤ 8 := by decide
 rw [List.getD_eq_getElem?_getD]
 cases e : jS[i]? with
 | none => simp
 | some x => exact h x (List.mem_of_getElem? e)
theorem xN (u : Nat) : mf u ≤ 64 := by
 have := pR
 have h1 : ∀ u, nN u ≤ 16 := fun u => by unfold nN; split <;> (have := pR (u / 256); have := pR u; omega)
 have h2 : ∀ u, nO u ≤ 32 := fun u => by unfold nO; split <;> (have := h1 (u / 65536); have := h1 u; omega)
 unfold mf; split <;> (have := h2 (u / 4294967296); have := h2 u; omega)
theorem Ft {l : List UInt8} (h : l = jS) {n : Nat} (hn : n < 256) : l.getD (IntKind.u8.wrap (n : Int)).toNat 0 = jS.getD n 0 := by
 rw [h, show (IntKind.u8.wrap (n : Int)).toNat = n by (simp (discharger := omega) only [wR]; omega)]
theorem Cy (q : Int) (hp : 0 ≤ q ∧ q ≤ 18446744073709551615) : OK 159 ([.int .u64 q]) ([]) (.int .i64 (mf q.toNat : Nat)) (none) := by
 refine ah (C := cx []) (ai trivial) (fn := Tryz.f159) rfl rfl rfl rfl fun hw hs => ?_
 obtain ⟨u, rfl⟩ := Int.eq_ofNat_of_zero_le hp.1
 rw [Int.toNat_natCast]
 have h32 : ∀ n : Nat, cB .u64 n 32 = ((n / 4294967296 : Nat) : Int) := fun n => nv .u64 n 32
 have h16 : ∀ n : Nat, cB .u64 n 16 = ((n / 65536 : Nat) : Int) := fun n => nv .u64 n 16
 have h8 : ∀ n : Nat, cB .u64 n 8 = ((n / 256 : Nat) : Int) := fun n => nv .u64 n 8
 have hb := pR
 repeat' ((conv => whnf); first | apply ab | (apply ae <;> intro h) | with_reducible refine gJ ?_ fun hc => ?_)
 all_goals try conv => whnf
 all_goals try (refine a7.mk ?_; try dsimp only)
 all_goals (try simp only [h32, h16, h8] at *)
 all_goals first
  | (show (0 : Int) ≤ _; (first | omega | (simp (discharger := omega) only [wR]; omega)))
  | (refine Nat.lt_of_lt_of_le (m := 256) ?_ (Nat.le_of_eq rfl); (simp (discharger := omega) only [wR]; omega))
  | skip
 all_goals
  unfold mf nO nN
  repeat (first | rw [if_pos (by omega)] | rw [if_neg (by omega)])
  refine a6.mk [] ?_ <;> (repeat' first | trivial | apply ak | apply az)
  rw [Ft]
  . generalize hk : (jS.getD _ 0).toNat = k
    have hk8 : k ≤ 8 := hk ▸ hb _
    (simp (discharger := omega) only [wR]; omega)
  . rfl
  . omega
def tT : Sm := fun args σ => match args, σ with
 | [.int .u64 q], [] => some (0 ≤ q ∧ q ≤ 18446744073709551615, .int .i64 (mf q.toNat : Nat), none)
 | _, _ => none
theorem EH : a9 159 tT := by
 intro args sg pre x r he hp
 unfold tT at he
 split at he <;> cases he
 . exact Cy (hp := hp) ..
def mB (u : Nat) : Nat := ((max (mf u) 1) + 6) / 7
theorem z8 (u : Nat) : 1 ≤ mB u ∧ mB u ≤ 10 := by have := xN u; unfold mB; omega
theorem DE (u : Int) (hp : 0 ≤ u ∧ u ≤ 18446744073709551615) : OK 148 ([.int .u64 u]) ([]) (.int .i64 (mB u.toNat : Nat)) (none) := by
 refine ah (C := cx [(159, tT)]) (ai ⟨EH, trivial⟩) (fn := Tryz.f148) rfl rfl rfl rfl fun hw hs => ?_
 obtain ⟨n, rfl⟩ := Int.eq_ofNat_of_zero_le hp.1
 rw [Int.toNat_natCast]
 have := xN n
 repeat' ((conv => whnf); apply ab)
 all_goals try conv => whnf
 all_goals try (refine a7.mk ?_; try dsimp only)
 all_goals first | refine stay ?_ | trivial | skip
 unfold mB
 refine a6.mk [] ?_ <;> (repeat' first | trivial | apply ak | apply az)
 simp only [Int.toNat_natCast]
 split <;> (simp (discharger := omega) only [wR]; omega)
def qK : Sm := fun args σ => match args, σ with
 | [.int .u64 u], [] => some (0 ≤ u ∧ u ≤ 18446744073709551615, .int .i64 (mB u.toNat : Nat), none)
 | _, _ => none
theorem xA : a9 148 qK := by
 intro args sg pre x r he hp
 unfold qK at he
 split at he <;> cases he
 . exact DE (hp := hp) ..
theorem DB (l : List V) (u : Int) (hp : (0 ≤ u ∧ u ≤ 18446744073709551615) ∧ l.length ≤ 2000000000) : OK 116 ([.buf 0, .int .u64 u]) ([.buf 1 0 l]) (.buf 1) (some [.buf 1 0 l, .buf 1 0 (l ++ bl (cg u.toNat))]) := by
 refine ah (C := cx [(148, qK)]) (ai ⟨xA, trivial⟩) (fn := Tryz.f116) rfl rfl rfl rfl fun hw hs => ?_
 obtain ⟨hp, hq⟩ := hp
 obtain ⟨n, rfl⟩ := Int.eq_ofNat_of_zero_le hp.1
 rw [Int.toNat_natCast]
 have hz := z8 n
 have hv := iy (u := n) (by omega)
 repeat' ((conv => whnf); apply ab)
 all_goals try conv => whnf
 all_goals try (refine a7.mk ?_; try dsimp only)
 all_goals first | refine stay ?_ | trivial | (simp (discharger := omega) [-List.getD_eq_getElem?_getD, wR] <;> omega) | skip
 refine c5.mk (Nat × List UInt8) (fun | (w, o) => w ≤ 18446744073709551615 ∧ cg n = o ++ cg w) (fun | (w, o) => ⟨32, [(0, .buf 0), (1, .int .u64 w), (4, .list true 0 []), (5, .buf 1)], [.buf 1 0 l, .buf 1 0 (l ++ bl o)], [1]⟩) (fun x => x.1) [] (n, []) ⟨by omega, rfl⟩ ?_ (fun ⟨w, o⟩ ⟨hw, he⟩ _ _ => ?_)
 . refine Go.VG.Sub.mk rfl ?_ ?_ ?_ ?_ <;> (repeat' first | trivial | apply ak | apply bI)
   simp [bl]
 have hs7 : cB .u64 w 7 = ((w / 128 : Nat) : Int) := nv .u64 w 7
 have ho := dL o
 have hvw := iy hw
 have hel := congrArg List.length he
 rw [List.length_append] at hel
 have ob : i4 .u8 (IntKind.u8.wrap w) 128 = (((UInt8.ofNat (128 + w % 128)).toNat : Nat) : Int) := by
  rw [show IntKind.u8.wrap (w : Int) = ((w % 256 : Nat) : Int) by rw [je]; omega, yg _ (by omega), UInt8.toNat_ofNat']
  omega
 have on : IntKind.u8.wrap w = (((UInt8.ofNat w).toNat : Nat) : Int) := by rw [je, UInt8.toNat_ofNat']; omega
 repeat' ((conv => whnf); first | apply ab | (apply ae <;> intro h))
 all_goals try conv => whnf
 all_goals try (refine a7.mk ?_; try dsimp only)
 all_goals first | refine stay ?_ | trivial | (simp only [fX]; omega) | skip
 . refine ⟨[], (w / 128, o ++ [.ofNat (128 + w % 128)]), ⟨by omega, by rw [he, uA (by omega)]; simp⟩, ?_, by show w / 128 < w; omega⟩
   refine Go.VG.Sub.mk rfl ?_ ?_ ?_ ?_ <;> (repeat' first | trivial | apply ak | apply az | apply bI)
   rw [fq, List.append_assoc]; simp [bl, bv, ob]
 . rw [he, r8 (by omega)]
   refine a6.mk [] ?_ <;> (repeat' first | trivial | apply ak | apply bI)
   rw [fq, List.append_assoc]; simp [bl, bv, on]
theorem wg (c : Bool) (l : List V) (u : Int) (hp : (0 ≤ u ∧ u ≤ 18446744073709551615) ∧ l.length ≤ 2000000000) : OK 116 ([.list c 1 l, .int .u64 u]) ([]) (.buf 0) (some [.buf 1 0 (l ++ bl (cg u.toNat))]) := by
 refine ah (C := cx [(148, qK)]) (ai ⟨xA, trivial⟩) (fn := Tryz.f116) rfl rfl rfl rfl fun hw hs => ?_
 obtain ⟨hp, hq⟩ := hp
 obtain ⟨n, rfl⟩ := Int.eq_ofNat_of_zero_le hp.1
 rw [Int.toNat_natCast]
 have hz := z8 n
 have hv := iy (u := n) (by omega)
 repeat' ((conv => whnf); apply ab)
 all_goals try conv => whnf
 all_goals try (refine a7.mk ?_; try dsimp only)
 all_goals first | refine stay ?_ | trivial | (simp (discharger := omega) [-List.getD_eq_getElem?_getD, wR] <;> omega) | skip
 refine c5.mk (Nat × List UInt8) (fun | (w, o) => w ≤ 18446744073709551615 ∧ cg n = o ++ cg w) (fun | (w, o) => ⟨32, [(0, .list c 1 l), (1, .int .u64 w), (4, .list true 0 []), (5, .buf 0)], [.buf 1 0 (l ++ bl o)], [0]⟩) (fun x => x.1) [] (n, []) ⟨by omega, rfl⟩ ?_ (fun ⟨w, o⟩ ⟨hw, he⟩ _ _ => ?_)
 . refine Go.VG.Sub.mk rfl ?_ ?_ ?_ ?_ <;> (repeat' first | trivial | apply ak | apply bI)
   simp [bl]
 have hs7 : cB .u64 w 7 = ((w / 128 : Nat) : Int) := nv .u64 w 7
 have ho := dL o
 have hvw := iy hw
 have hel := congrArg List.length he
 rw [List.length_append] at hel
 have ob : i4 .u8 (IntKind.u8.wrap w) 128 = (((UInt8.ofNat (128 + w % 128)).toNat : Nat) : Int) := by
  rw [show IntKind.u8.wrap (w : Int) = ((w % 256 : Nat) : Int) by rw [je]; omega, yg _ (by omega), UInt8.toNat_ofNat']
  omega
 have on : IntKind.u8.wrap w = (((UInt8.ofNat w).toNat : Nat) : Int) := by rw [je, UInt8.toNat_ofNat']; omega
 repeat' ((conv => whnf); first | apply ab | (apply ae <;> intro h))
 all_goals try conv => whnf
 all_goals try (refine a7.mk ?_; try dsimp only)
 all_goals first | refine stay ?_ | trivial | (simp only [fX]; omega) | skip
 . refine ⟨[], (w / 128, o ++ [.ofNat (128 + w % 128)]), ⟨by omega, by rw [he, uA (by omega)]; simp⟩, ?_, by show w / 128 < w; omega⟩
   refine Go.VG.Sub.mk rfl ?_ ?_ ?_ ?_ <;> (repeat' first | trivial | apply ak | apply az | apply bI)
   rw [fq, List.append_assoc]; simp [bl, bv, ob]
 . rw [he, r8 (by omega)]
   refine a6.mk [] ?_ <;> (repeat' first | trivial | apply ak | apply bI)
   rw [fq, List.append_assoc]; simp [bl, bv, on]
theorem DC (z : Nat) (u : Int) (hp : 0 ≤ u ∧ u ≤ 18446744073709551615) : OK 116 ([.list true z [], .int .u64 u]) ([]) (.buf 0) (some [.buf 1 0 (bl (cg u.toNat))]) := by
 exact (wg true [] u ⟨hp, by simp⟩).args (aN.cons (Wk.nil (.inl rfl)) (aN.refl _))
def mK : Sm := fun args σ => match args, σ with
 | [.buf 0, .int .u64 u], [.buf 1 0 l] => some ((0 ≤ u ∧ u ≤ 18446744073709551615) ∧ l.length ≤ 2000000000, .buf 1, some [.buf 1 0 l, .buf 1 0 (l ++ bl (cg u.toNat))])
 | [.list c 1 l, .int .u64 u], [] => some ((0 ≤ u ∧ u ≤ 18446744073709551615) ∧ l.length ≤ 2000000000, .buf 0, some [.buf 1 0 (l ++ bl (cg u.toNat))])
 | [.list true z [], .int .u64 u], [] => some (0 ≤ u ∧ u ≤ 18446744073709551615, .buf 0, some [.buf 1 0 (bl (cg u.toNat))])
 | _, _ => none
theorem pM : a9 116 mK := by
 intro args sg pre x r he hp
 unfold mK at he
 split at he <;> cases he
 . exact DB (hp := hp) ..
 . exact wg (hp := hp) ..
 . exact DC (hp := hp) ..
theorem HM {n : Int} (h : -9223372036854775808 ≤ n ∧ n ≤ 9223372036854775807) : nx .u64 (i5 .u64 (IntKind.u64.wrap n) 1) (IntKind.u64.wrap (cB .i64 n 63)) = iA n := by
 have e1 : i5 .u64 (IntKind.u64.wrap n) 1 = (if n < 0 then 2 * n + 18446744073709551616 else 2 * n) := by
  show IntKind.u64.wrap (IntKind.u64.wrap n * 2) = _
  rw [cm, cm]; split <;> omega
 have e2 : cB .i64 n 63 = if n < 0 then -1 else 0 := by
  show n.fdiv 9223372036854775808 = _
  rw [Int.fdiv_eq_ediv_of_nonneg _ (by decide)]
  split <;> omega
 rw [e1, e2]
 unfold iA
 by_cases c : n < 0
 . rw [if_pos c, if_pos c, if_pos c]
   have e : 2 * n + 18446744073709551616 = ((2 * n + 18446744073709551616).toNat : Int) := by omega
   rw [e]
   show IntKind.u64.wrap ((BitVec.ofInt 64 _ ^^^ BitVec.ofInt 64 18446744073709551615).toNat : Int) = _
   rw [BitVec.ofInt_natCast, show BitVec.ofInt 64 18446744073709551615 = BitVec.allOnes 64 by decide, BitVec.xor_allOnes, BitVec.toNat_not, BitVec.toNat_ofNat, Nat.mod_eq_of_lt (by omega), cm]
   omega
 . rw [if_neg c, if_neg c, if_neg c]
   have e : 2 * n = ((2 * n).toNat : Int) := by omega
   rw [e]
   show IntKind.u64.wrap ((BitVec.ofInt 64 _ ^^^ BitVec.ofInt 64 0).toNat : Int) = _
   rw [BitVec.ofInt_natCast, show BitVec.ofInt 64 0 = 0#64 by decide, BitVec.xor_zero, BitVec.toNat_ofNat, Nat.mod_eq_of_lt (by omega), cm]
   omega
theorem DI (n : Int) (hp : True) : OK 118 ([.int .i64 n]) ([]) (.int .u64 (iA n)) (none) := by
 refine ah (C := cx []) (ai trivial) (fn := Tryz.f118) rfl rfl rfl rfl fun hw hs => ?_
 repeat' ((conv => whnf); apply ab)
 all_goals try conv => whnf
 all_goals try (refine a7.mk ?_; try dsimp only)
 all_goals first | refine stay ?_ | trivial | skip
 refine a6.mk [] ?_ <;> (repeat' first | trivial | apply ak | apply az)
 exact HM hw.1
def qN : Sm := fun args σ => match args, σ with
 | [.int .i64 n], [] => some (True, .int .u64 (iA n), none)
 | _, _ => none
theorem xD : a9 118 qN := by
 intro args sg pre x r he hp
 unfold qN at he
 split at he <;> cases he
 . exact DI (hp := hp) ..
end Go.Proofs.YtipejldppicijaaGreatDoor
