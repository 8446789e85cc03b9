/-
  Reading of bytes and of words.
-/
import Derived.Test.YtjkbahllghofoaaCRa
set_option linter.unusedSimpArgs false
set_option linter.unusedVariables false
set_option maxHeartbeats 4000000
namespace Go.Proofs.Ytjkbahllghofoaa
open Go Go.VG
set_option maxRecDepth 100000
theorem cut_take {s : List UInt8} {p n : Int} (h : 0 ≤ p ∧ 0 ≤ n) : List.drop p.toNat (List.take (p + n).toNat s) = (s.drop p.toNat).take n.toNat := by
  rw [List.drop_take, show (p + n).toNat - p.toNat = n.toNat by omega]
theorem vr_lt : ∀ (j i u : Nat) (c : Cu), i + j = 10 → u < 2 ^ (7 * i) → (vrGo j i u c).1 ≤ 18446744073709551615
  | 0, i, u, c, _, _ => by rw [vrGo]; exact Nat.zero_le _
  | j + 1, i, u, c, hi, hu => by
    have h256 := c.byteV.toNat_lt
    rw [vrGo]
    split
    · exact Nat.zero_le _
    · split
      · exact Nat.zero_le _
      · rename_i h2
        split
        · rename_i h3
          have := (or_shl (i := i) (by omega) hu h3 (fun h => by omega)).2
          show u + _ ≤ _
          omega
        · rename_i h3
          refine vr_lt j (i + 1) _ _ (by omega) ?_
          rw [show 7 * (i + 1) = 7 + 7 * i by omega, Nat.pow_add, show c.byteV.toNat - 128 = c.byteV.toNat % 128 by omega]
          exact vr_bound hu
theorem vread_lt {c : Cu} : c.vread.1 ≤ 18446744073709551615 := vr_lt 10 0 0 c rfl (by decide)
theorem takeV_len (c : Cu) : (c.takeV 8).length ≤ 8 := by
  unfold Cu.takeV
  split
  · rw [List.length_take]; exact Nat.min_le_left _ _
  · simp
theorem lowR_step {s : List UInt8} {m : Nat} (h : m < s.length) : lowR (s.drop m) = (s.getD m 0).toNat + 256 * lowR (s.drop (m + 1)) := by
  rw [List.drop_eq_getElem_cons h, lowR, List.getD_eq_getElem?_getD, List.getElem?_eq_getElem h]; rfl
theorem lowR_b {s : List UInt8} {m : Nat} (h : s.length ≤ 8) (hm : 1 ≤ m) : lowR (s.drop m) * 256 + 255 ≤ 18446744073709551615 := by
  have h1 := lowR_lt (s.drop m)
  have h2 : (s.drop m).length ≤ 7 := by rw [List.length_drop]; omega
  have h3 := Nat.pow_le_pow_right (n := 256) (by decide) h2
  have h4 : (256 : Nat) ^ 7 = 72057594037927936 := by decide
  omega
theorem take4_len (c : Cu) : (c.takeV 4).length ≤ 4 := by
  unfold Cu.takeV
  split
  · rw [List.length_take]; exact Nat.min_le_left _ _
  · simp
def Cu.low32 (c : Cu) : Nat × Cu := (lowR (c.takeV 4), c.pass 4)
theorem lowR_b4 {s : List UInt8} {m : Nat} (h : s.length ≤ 4) (hm : 1 ≤ m) : lowR (s.drop m) * 256 + 255 ≤ 4294967295 := by
  have h1 := lowR_lt (s.drop m)
  have h2 : (s.drop m).length ≤ 3 := by rw [List.length_drop]; omega
  have h3 := Nat.pow_le_pow_right (n := 256) (by decide) h2
  have h4 : (256 : Nat) ^ 3 = 16777216 := by decide
  omega
theorem shl_or8w {u b : Nat} (hb : b < 256) (hu : u * 256 + 255 ≤ 4294967295) : iOr .u32 (iShl .u32 (u : Int) 8) (IntKind.u32.wrap (b : Int)) = ((b + 256 * u : Nat) : Int) := by
  rw [show IntKind.u32.wrap (b : Int) = (b : Int) by rw [wu32]; omega]
  have e1 : iShl .u32 (u : Int) 8 = ((u * 2 ^ 8 : Nat) : Int) := by
    show IntKind.u32.wrap ((u : Int) * 2 ^ 8) = _
    rw [wu32]; omega
  rw [e1]
  show IntKind.u32.wrap ((BitVec.ofInt 32 ((u * 2 ^ 8 : Nat) : Int) ||| BitVec.ofInt 32 (b : Int)).toNat : Int) = _
  rw [BitVec.ofInt_natCast, BitVec.ofInt_natCast, BitVec.toNat_or, BitVec.toNat_ofNat, BitVec.toNat_ofNat, Nat.mod_eq_of_lt (by omega), Nat.mod_eq_of_lt (by omega), wu32]
  have e2 := Nat.shiftLeft_add_eq_or_of_lt (i := 8) (b := b) (by omega) u
  rw [Nat.shiftLeft_eq] at e2
  rw [← e2]; omega
theorem err_take {c : Cu} (h : ¬ c.c = 0) (n : Int) : c.takeV n = [] ∧ c.pass n = c := by
  constructor
  · unfold Cu.takeV Cu.may
    rw [if_neg (by rw [decide_eq_false (fun q => h q.1)]; decide)]
  · unfold Cu.pass; rw [if_pos h]
theorem pass_err {c : Cu} (h : ¬ c.c = 0) (n : Int) : c.pass n = c := by unfold Cu.pass; rw [if_pos h]
theorem vr_err {c : Cu} (h : ¬ c.c = 0) : c.vread = (0, c) := by
  unfold Cu.vread
  rw [vrGo, show c.byte = c from pass_err h 1, if_pos h]
end Go.Proofs.Ytjkbahllghofoaa
