/-
  What is read of what was laid.
-/
import Derived.Test.YtcgjkjabcdeagaaDoorCRb
import Derived.Test.YtcgjkjabcdeagaaDoorCRp
set_option linter.unusedSimpArgs false
set_option linter.unusedVariables false
set_option maxHeartbeats 4000000
namespace Go.Proofs.YtcgjkjabcdeagaaDoor
open Go Go.VG
set_option maxRecDepth 100000
theorem fld_put {s : List UInt8} {p : Nat} {last id k : Int} (hk : 1 ≤ k ∧ k ≤ 12) (hi : -32768 ≤ id ∧ id ≤ 32767) (hr : Rd s (pfield last id (byte k)) p) :
    (cu s p).fld last = ((id, k), cu s (p + (pfield last id (byte k)).length)) := by
  have hkn : ((byte k).toNat : Int) = k := byte_toNat (by omega)
  have hE : ∀ q, fldE id k (cu s q) = ((id, k), cu s q) := fun q => by
    unfold fldE
    rw [if_neg (fun h => h rfl), if_neg (by omega)]
  unfold pfield at hr ⊢
  rw [if_neg (by omega)] at hr ⊢
  by_cases c : last ≥ -32768 ∧ last < id ∧ id - last ≤ 15
  · rw [if_pos c] at hr ⊢
    obtain ⟨b1, b2⟩ := cu_byte hr
    have e : ((byte (16 * (id - last) + ↑(byte k).toNat)).toNat : Int) = 16 * (id - last) + k := by rw [byte_toNat (by omega), hkn]
    unfold Cu.fld
    rw [b1, b2, if_neg (show ¬ (cu s (p + 1)).c ≠ 0 from fun h => h rfl), if_neg (by omega)]
    have e3 : (((byte (16 * (id - last) + ↑(byte k).toNat)).toNat % 16 : Nat) : Int) = k := by omega
    have e4 : (((byte (16 * (id - last) + ↑(byte k).toNat)).toNat / 16 : Nat) : Int) = id - last := by omega
    rw [e3, e4, if_pos (isK_t.2 (by omega)), if_pos (by omega), show IntKind.i64.wrap (last + (id - last)) = id by rw [show last + (id - last) = id by omega, wi64]; omega, hE]
    rfl
  · rw [if_neg c] at hr ⊢
    obtain ⟨b1, b2⟩ := cu_byte hr
    unfold Cu.fld
    rw [b1, b2, if_neg (show ¬ (cu s (p + 1)).c ≠ 0 from fun h => h rfl), if_neg (by omega)]
    have e3 : (((byte k).toNat % 16 : Nat) : Int) = k := by omega
    rw [e3, if_pos (isK_t.2 (by omega)), if_neg (by omega), vread_put (by have := zigN_lt (n := id) (by omega); omega) hr.cons.2.2]
    dsimp only
    rw [zag_zig, hE, List.length_cons, show p + 1 + (vput (zigN id)).length = p + ((vput (zigN id)).length + 1) by omega]
theorem fld_stop {s : List UInt8} {p : Nat} {last : Int} (hr : Rd s [0] p) : (cu s p).fld last = ((0, 0), cu s (p + 1)) := by
  obtain ⟨b1, b2⟩ := cu_byte hr
  unfold Cu.fld
  rw [b1, b2, if_neg (show ¬ (cu s (p + 1)).c ≠ 0 from fun h => h rfl), if_pos (by decide)]
theorem num_put {s : List UInt8} {p : Nat} {n : Int} (hn : -9223372036854775808 ≤ n ∧ n ≤ 9223372036854775807) (hr : Rd s (vput (zigN n)) p) :
    (cu s p).num64 = n ∧ (cu s p).vread.2 = cu s (p + (vput (zigN n)).length) := by
  have := vread_put (by have := zigN_lt hn; omega) hr
  unfold Cu.num64
  rw [this]
  exact ⟨by rw [if_pos (by rfl)]; exact zag_zig, rfl⟩
end Go.Proofs.YtcgjkjabcdeagaaDoor
