/-
  Characters: the program's are the document's.
-/
import Derived.Test.YtllncocibkgjkaaPUtf
set_option linter.unusedSimpArgs false
set_option linter.unusedVariables false
set_option maxHeartbeats 4000000
namespace Go.Proofs.Ytllncocibkgjkaa
open Go Go.VG
set_option maxRecDepth 100000
def ado (b : Nat) : Nat := if b < 128 then 1 else if b < 194 then 0 else if b < 224 then 2 else if b < 240 then 3 else if b < 245 then 4 else 0
def aj9 (n : Int) : Int := if n = 2 then 128 else if n = 3 then 2048 else if n = 4 then 65536 else 0
def cont (b : UInt8) : Bool := decide (128 ≤ b.toNat ∧ b.toNat < 192)
def arl (s : List UInt8) : Nat → Nat → Nat → Option Nat
  | 0, _, a => some a
  | r + 1, i, a => if cont (s.getD i 0) = true then arl s r (i + 1) (64 * a + (s.getD i 0).toNat % 64) else none
def bbx (n : Nat) : Option Nat → Int × Nat
  | none => (0, 0)
  | some r => if (r : Int) < aj9 n then (0, 0) else if uIs r = true then ((r : Int), n) else (0, 0)
theorem am7 (n r : Nat) : bbx n (some r) = if (r : Int) < aj9 n then (0, 0) else if uIs r = true then ((r : Int), n) else (0, 0) := rfl
def ac3 (s : List UInt8) (i : Nat) : Int × Nat :=
  if s.length ≤ i then (0, 0)
  else if ado (s.getD i 0).toNat = 0 then (0, 0)
  else if s.length < i + ado (s.getD i 0).toNat then (0, 0)
  else if ado (s.getD i 0).toNat = 1 then (((s.getD i 0).toNat : Int), 1)
  else bbx (ado (s.getD i 0).toNat) (arl s (ado (s.getD i 0).toNat - 1) (i + 1) ((s.getD i 0).toNat % 2 ^ (7 - ado (s.getD i 0).toNat)))
theorem aog (k : IntKind) (j n : Nat) (hk : n < 2 ^ k.bits) (hj : 2 ^ j - 1 < 2 ^ k.bits) (hs : n % 2 ^ j ≤ k.max) (h0 : k.min ≤ (n % 2 ^ j : Nat)) (hw : ∀ m : Nat, (m : Int) ≤ k.max → k.wrap m = m) : bcb k n ((2 ^ j - 1 : Nat) : Int) = ((n % 2 ^ j : Nat) : Int) := by
  show k.wrap ((BitVec.ofInt k.bits (n : Int) &&& BitVec.ofInt k.bits ((2 ^ j - 1 : Nat) : Int)).toNat : Int) = _
  rw [BitVec.ofInt_natCast, BitVec.ofInt_natCast, BitVec.toNat_and, BitVec.toNat_ofNat, BitVec.toNat_ofNat, Nat.mod_eq_of_lt hk, Nat.mod_eq_of_lt hj, Nat.and_two_pow_sub_one_eq_mod]
  exact hw _ hs
theorem aqy (m : Nat) (h : (m : Int) ≤ IntKind.i32.max) : IntKind.i32.wrap m = m := by
  have : IntKind.i32.max = 2147483647 := rfl
  rw [a97]; omega
theorem aou (m : Nat) (h : (m : Int) ≤ IntKind.u8.max) : IntKind.u8.wrap m = m := by
  have : IntKind.u8.max = 255 := rfl
  rw [wu8]; omega
theorem ave (n : Nat) (h : n < 256) : bcb .u8 n 63 = ((n % 64 : Nat) : Int) := aog .u8 6 n h (by decide) (by show ((n % 64 : Nat) : Int) ≤ 255; omega) (by show (0 : Int) ≤ _; omega) aou
theorem amf : ∀ n : Nat, n < 256 → bcb .u8 n 192 = ((n / 64 * 64 : Nat) : Int) := by decide
theorem ay4 (n b : Nat) (hn : n = 2 ∨ n = 3 ∨ n = 4) (h : b < 256) : bcb .i32 b (a6r .i32 127 n) = ((b % 2 ^ (7 - n) : Nat) : Int) := by
  have hm : IntKind.i32.max = 2147483647 := rfl
  have hi : IntKind.i32.min = -2147483648 := rfl
  have e : IntKind.i32.bits = 32 := rfl
  rcases hn with rfl | rfl | rfl
  · exact aog .i32 5 b (by rw [e]; omega) (by rw [e]; decide) (by rw [hm]; omega) (by rw [hi]; omega) aqy
  · exact aog .i32 4 b (by rw [e]; omega) (by rw [e]; decide) (by rw [hm]; omega) (by rw [hi]; omega) aqy
  · exact aog .i32 3 b (by rw [e]; omega) (by rw [e]; decide) (by rw [hm]; omega) (by rw [hi]; omega) aqy
theorem a8l (a : Nat) (h : a < 2000000) : a6q .i32 a 6 = ((64 * a : Nat) : Int) := by
  show IntKind.i32.wrap ((a : Int) * 2 ^ (min 6 32)) = _
  rw [a97]
  have : ((2 : Int) ^ (min 6 32)) = 64 := rfl
  rw [this]; omega
theorem a7y (a b j : Nat) (h : b < 2 ^ j) : a * 2 ^ j ||| b = a * 2 ^ j + b := by
  have := Nat.shiftLeft_add_eq_or_of_lt h a
  rw [Nat.shiftLeft_eq] at this
  exact this.symm
theorem bb8 (a b : Nat) (ha : a < 2000000) (hb : b < 64) : iOr .i32 ((64 * a : Nat) : Int) b = ((64 * a + b : Nat) : Int) := by
  show IntKind.i32.wrap ((BitVec.ofInt 32 ((64 * a : Nat) : Int) ||| BitVec.ofInt 32 (b : Int)).toNat : Int) = _
  rw [BitVec.ofInt_natCast, BitVec.ofInt_natCast, BitVec.toNat_or, BitVec.toNat_ofNat, BitVec.toNat_ofNat, Nat.mod_eq_of_lt (by omega), Nat.mod_eq_of_lt (by omega), Nat.mul_comm 64 a, a7y a b 6 hb]
  rw [a97]; omega
theorem a6i (b : UInt8) (hp : True) : OK 124 ([bv b]) ([]) (.int .i64 (ado b.toNat)) (none) := by
  refine aa0 (C := cx []) (abh trivial) (fn := Try.f124) rfl rfl rfl rfl fun hw hs => ?_
  repeat' ((conv => whnf); first | with_reducible (first | refine go1 (fun j q h => ?_) fun h => ?_ | refine go2 ⟨rfl, rfl⟩ (fun h => ?_) fun j h => ?_ | refine go2 ?_ (fun h => ?_) fun j h => ?_ | refine goQ ?_ (fun h => ?_) fun h => ?_) | refine go3 ?_ ?_ | refine go4 ?_ ?_ | refine go5 ?_ | ((first | refine go6 ?_ ?_ | refine go7 ?_ ?_ | refine go8 ?_ ?_ | refine go9 ?_ ?_ | refine goA ?_ ?_) <;> intro h) | with_reducible (first | refine aai.mk _ rfl ?_ | refine goB ?_ fun hc => ?_ | refine goC ?_ fun hc => ?_ | refine goD ?_ fun hc => ?_ | refine goE ?_ fun hc => ?_ | refine goF ?_ ?_ | refine goG ?_ ?_ | refine goH ?_ fun b hb => ?_) | refine goI ?_ | refine goJ ?_ ?_ | refine goK ?_ ?_ ?_ | refine goL ?_ ?_ ?_ ?_ | refine goM ?_ ?_ ?_ ?_ ?_ | refine goN ?_ ?_ | refine goO ?_ ?_ | with_reducible refine goP ?_)
  all_goals try conv => whnf
  all_goals try (refine aac.mk ?_; try dsimp only)
  all_goals first
    | (refine stay ?_)
    | (first | trivial | omega | (simp (discharger := omega) only [wR]; omega) | (simp only [lnS]; omega) | (simp (discharger := omega) [-List.getD_eq_getElem?_getD, wR] <;> omega)) | skip
  all_goals
    unfold ado
    repeat (first | rw [if_pos (by omega)] | rw [if_neg (by omega)])
    refine aa9.mk [] ?_ <;> (repeat' first | trivial | rfl | exact eqS _ _ | apply And.intro | apply eqA | apply eqB | apply eqC | apply eqD | apply eqE | apply eqF | apply eqG | apply eqH | apply eqI)
def auv : Sm := fun args σ => match args, σ with
  | [.int .u8 n_b], [] => some ((0 ≤ n_b ∧ n_b ≤ 255) ∧ (True), .int .i64 (ado (byte n_b).toNat), none)
  | _, _ => none
theorem bdu : SOK 124 auv := by
  intro args sg pre x r he hp
  unfold auv at he
  split at he <;> cases he
  · rw [af3 (hp).1]; exact a6i (hp := hp.2) ..
theorem az3 (n : Int) (hp : True) : OK 125 ([.int .i64 n]) ([]) (.int .i32 (aj9 n)) (none) := by
  refine aa0 (C := cx []) (abh trivial) (fn := Try.f125) rfl rfl rfl rfl fun hw hs => ?_
  repeat' ((conv => whnf); first | with_reducible (first | refine go1 (fun j q h => ?_) fun h => ?_ | refine go2 ⟨rfl, rfl⟩ (fun h => ?_) fun j h => ?_ | refine go2 ?_ (fun h => ?_) fun j h => ?_ | refine goQ ?_ (fun h => ?_) fun h => ?_) | refine go3 ?_ ?_ | refine go4 ?_ ?_ | refine go5 ?_ | ((first | refine go6 ?_ ?_ | refine go7 ?_ ?_ | refine go8 ?_ ?_ | refine go9 ?_ ?_ | refine goA ?_ ?_) <;> intro h) | with_reducible (first | refine aai.mk _ rfl ?_ | refine goB ?_ fun hc => ?_ | refine goC ?_ fun hc => ?_ | refine goD ?_ fun hc => ?_ | refine goE ?_ fun hc => ?_ | refine goF ?_ ?_ | refine goG ?_ ?_ | refine goH ?_ fun b hb => ?_) | refine goI ?_ | refine goJ ?_ ?_ | refine goK ?_ ?_ ?_ | refine goL ?_ ?_ ?_ ?_ | refine goM ?_ ?_ ?_ ?_ ?_ | refine goN ?_ ?_ | refine goO ?_ ?_ | with_reducible refine goP ?_)
  all_goals try conv => whnf
  all_goals try (refine aac.mk ?_; try dsimp only)
  all_goals first
    | (refine stay ?_)
    | (first | trivial | omega | (simp (discharger := omega) only [wR]; omega) | (simp only [lnS]; omega) | (simp (discharger := omega) [-List.getD_eq_getElem?_getD, wR] <;> omega)) | skip
  all_goals
    unfold aj9
    repeat (first | rw [if_pos (by omega)] | rw [if_neg (by omega)])
    refine aa9.mk [] ?_ <;> (repeat' first | trivial | rfl | exact eqS _ _ | apply And.intro | apply eqA | apply eqB | apply eqC | apply eqD | apply eqE | apply eqF | apply eqG | apply eqH | apply eqI)
def anj : Sm := fun args σ => match args, σ with
  | [.int .i64 n], [] => some (True, .int .i32 (aj9 n), none)
  | _, _ => none
theorem a78 : SOK 125 anj := by
  intro args sg pre x r he hp
  unfold anj at he
  split at he <;> cases he
  · exact az3 (hp := hp) ..
theorem a9y (r : Int) (hp : True) : OK 110 ([.int .i32 r]) ([]) (.bool (uIs r)) (none) := by
  refine aa0 (C := cx []) (abh trivial) (fn := Try.f110) rfl rfl rfl rfl fun hw hs => ?_
  repeat' ((conv => whnf); first | with_reducible (first | refine go1 (fun j q h => ?_) fun h => ?_ | refine go2 ⟨rfl, rfl⟩ (fun h => ?_) fun j h => ?_ | refine go2 ?_ (fun h => ?_) fun j h => ?_ | refine goQ ?_ (fun h => ?_) fun h => ?_) | refine go3 ?_ ?_ | refine go4 ?_ ?_ | refine go5 ?_ | ((first | refine go6 ?_ ?_ | refine go7 ?_ ?_ | refine go8 ?_ ?_ | refine go9 ?_ ?_ | refine goA ?_ ?_) <;> intro h) | with_reducible (first | refine aai.mk _ rfl ?_ | refine goB ?_ fun hc => ?_ | refine goC ?_ fun hc => ?_ | refine goD ?_ fun hc => ?_ | refine goE ?_ fun hc => ?_ | refine goF ?_ ?_ | refine goG ?_ ?_ | refine goH ?_ fun b hb => ?_) | refine goI ?_ | refine goJ ?_ ?_ | refine goK ?_ ?_ ?_ | refine goL ?_ ?_ ?_ ?_ | refine goM ?_ ?_ ?_ ?_ ?_ | refine goN ?_ ?_ | refine goO ?_ ?_ | with_reducible refine goP ?_)
  all_goals try conv => whnf
  all_goals try (refine aac.mk ?_; try dsimp only)
  all_goals first
    | (refine stay ?_)
    | (first | trivial | omega | (simp (discharger := omega) only [wR]; omega) | (simp only [lnS]; omega) | (simp (discharger := omega) [-List.getD_eq_getElem?_getD, wR] <;> omega)) | skip
  all_goals
    refine aa9.mk [] ?_ <;> (repeat' first | trivial | rfl | exact eqS _ _ | apply And.intro | apply eqA | apply eqB | apply eqC | apply eqD | apply eqE | apply eqF | apply eqG | apply eqH | apply eqI)
    unfold uIs
  all_goals first
      | exact (decide_eq_true (by omega)).symm
      | exact (decide_eq_false (by omega)).symm
      | exact decide_eq_decide.2 (by constructor <;> intro _ <;> omega)
def akt : Sm := fun args σ => match args, σ with
  | [.int .i32 r], [] => some (True, .bool (uIs r), none)
  | _, _ => none
theorem awo : SOK 110 akt := by
  intro args sg pre x r he hp
  unfold akt at he
  split at he <;> cases he
  · exact a9y (hp := hp) ..
theorem bf3 {b : Nat} (h : b < 256) : ado b = 0 ∨ ado b = 1 ∨ ado b = 2 ∨ ado b = 3 ∨ ado b = 4 := by
  unfold ado
  repeat' split
  all_goals omega
theorem ba0 (s : List UInt8) (i : Nat) (hs : s.length ≤ 100000000) : OK 112 [.str s, .int .i64 i] [] (.tuple [.int .i32 (ac3 s i).1, .int .i64 (ac3 s i).2]) none := by
  refine aa0 (C := cx [(124, auv), (125, anj), (110, akt)]) (abh ⟨bdu, a78, awo, trivial⟩) (fn := Try.f112) rfl rfl rfl rfl fun hw _ => ?_
  have hc0 : (s.getD i 0).toNat < 256 := UInt8.toNat_lt _
  have hL := bf3 hc0
  have hby : byte ((s.getD i 0).toNat : Int) = s.getD i 0 := aaf _
  have hq := fun x => ay4 (ado (s.getD i 0).toNat) (s.getD i 0).toNat x hc0
  have hi : (i : Int) ≤ 9223372036854775807 := hw.2.1.2
  have hwr : IntKind.i64.wrap ((s.length : Int) - i) = s.length - i := by (first | omega | (simp (discharger := omega) only [wR]; omega) | (simp only [lnS]; omega) | (simp (discharger := omega) [-List.getD_eq_getElem?_getD, wR] <;> omega))
  have hwb : IntKind.i32.wrap ((s.getD i 0).toNat : Int) = (s.getD i 0).toNat := by (first | omega | (simp (discharger := omega) only [wR]; omega) | (simp only [lnS]; omega) | (simp (discharger := omega) [-List.getD_eq_getElem?_getD, wR] <;> omega))
  repeat' ((conv => whnf); first | with_reducible (first | refine go1 (fun j q h => ?_) fun h => ?_ | refine go2 ⟨rfl, rfl⟩ (fun h => ?_) fun j h => ?_ | refine go2 ?_ (fun h => ?_) fun j h => ?_ | refine goQ ?_ (fun h => ?_) fun h => ?_) | refine go3 ?_ ?_ | refine go4 ?_ ?_ | refine go5 ?_ | ((first | refine go6 ?_ ?_ | refine go7 ?_ ?_ | refine go8 ?_ ?_ | refine go9 ?_ ?_ | refine goA ?_ ?_) <;> intro h) | with_reducible (first | refine aai.mk _ rfl ?_ | refine goB ?_ fun hc => ?_ | refine goC ?_ fun hc => ?_ | refine goD ?_ fun hc => ?_ | refine goE ?_ fun hc => ?_ | refine goF ?_ ?_ | refine goG ?_ ?_ | refine goH ?_ fun b hb => ?_) | refine goI ?_ | refine goJ ?_ ?_ | refine goK ?_ ?_ ?_ | refine goL ?_ ?_ ?_ ?_ | refine goM ?_ ?_ ?_ ?_ ?_ | refine goN ?_ ?_ | refine goO ?_ ?_ | with_reducible refine goP ?_)
  all_goals try conv => whnf
  all_goals try (refine aac.mk ?_; try dsimp only)
  all_goals (try simp only [show ((i : Int)).toNat = i from rfl, hby, hwr, hwb] at *)
  all_goals first
    | (refine stay ?_)
    | (first | trivial | omega | (simp (discharger := omega) only [wR]; omega) | (simp only [lnS]; omega) | (simp (discharger := omega) [-List.getD_eq_getElem?_getD, wR] <;> omega)) | skip
  all_goals first
    | (show aa9 _ _ _ _ _ _
       unfold ac3
       repeat (first | rw [if_pos (by omega)] | rw [if_neg (by omega)])
       refine aa9.mk [] ?_ <;> (repeat' first | trivial | rfl | exact eqS _ _ | apply And.intro | apply eqA | apply eqB | apply eqC | apply eqD | apply eqE | apply eqF | apply eqG | apply eqH | apply eqI)
       done)
    | skip
  have hn : ado (s.getD i 0).toNat = 2 ∨ ado (s.getD i 0).toNat = 3 ∨ ado (s.getD i 0).toNat = 4 := by omega
  have he0 : ac3 s i = bbx (ado (s.getD i 0).toNat) (arl s (ado (s.getD i 0).toNat - 1) (i + 1) ((s.getD i 0).toNat % 2 ^ (7 - ado (s.getD i 0).toNat))) := by
    unfold ac3
    repeat (first | rw [if_pos (by omega)] | rw [if_neg (by omega)])
  rw [he0]
  rw [hq hn]
  have hr0 : (s.getD i 0).toNat % 2 ^ (7 - ado (s.getD i 0).toNat) < 32 := by
    rcases hn with h | h | h <;> rw [h] <;> omega
  generalize hr : (s.getD i 0).toNat % 2 ^ (7 - ado (s.getD i 0).toNat) = r0 at *
  generalize hu : ado (s.getD i 0).toNat = n at *
  refine abt.mk (Nat × Nat) (fun | (j, a) => 1 ≤ j ∧ j ≤ n ∧ ((j = 1 ∧ a < 32) ∨ (j = 2 ∧ a < 2048) ∨ (j = 3 ∧ a < 131072) ∨ (j = 4 ∧ a < 8388608)) ∧ arl s (n - j) (i + j) a = arl s (n - 1) (i + 1) r0)
    (fun | (j, a) => ⟨74, [(0, .str s), (1, .int .i64 i), (4, .int .i32 a), (6, .int .i64 n), (7, .int .i64 j)], [], []⟩) (fun x => n - x.1) [] (1, r0) ⟨by omega, by omega, by omega, rfl⟩ ?_ (fun ⟨j, a⟩ ⟨hj, hjn, hb, he⟩ _ _ => ?_)
  · refine Go.VG.Sub.mk rfl ?_ ?_ ?_ ?_ <;> (repeat' first | trivial | rfl | exact eqS _ _ | apply And.intro | apply eqA | apply eqB | apply eqC | apply eqD | apply eqE | apply eqF | apply eqG | apply eqH | apply eqI)
  have hij : (IntKind.i64.wrap ((i : Int) + j)).toNat = i + j := by (first | omega | (simp (discharger := omega) only [wR]; omega) | (simp only [lnS]; omega) | (simp (discharger := omega) [-List.getD_eq_getElem?_getD, wR] <;> omega))
  have hc1 : (s.getD (i + j) 0).toNat < 256 := UInt8.toNat_lt _
  have h192 := amf _ hc1
  have h63 := ave _ hc1
  repeat' ((conv => whnf); first | with_reducible (first | refine go1 (fun j q h => ?_) fun h => ?_ | refine go2 ⟨rfl, rfl⟩ (fun h => ?_) fun j h => ?_ | refine go2 ?_ (fun h => ?_) fun j h => ?_ | refine goQ ?_ (fun h => ?_) fun h => ?_) | refine go3 ?_ ?_ | refine go4 ?_ ?_ | refine go5 ?_ | ((first | refine go6 ?_ ?_ | refine go7 ?_ ?_ | refine go8 ?_ ?_ | refine go9 ?_ ?_ | refine goA ?_ ?_) <;> intro h) | with_reducible (first | refine aai.mk _ rfl ?_ | refine goB ?_ fun hc => ?_ | refine goC ?_ fun hc => ?_ | refine goD ?_ fun hc => ?_ | refine goE ?_ fun hc => ?_ | refine goF ?_ ?_ | refine goG ?_ ?_ | refine goH ?_ fun b hb => ?_) | refine goI ?_ | refine goJ ?_ ?_ | refine goK ?_ ?_ ?_ | refine goL ?_ ?_ ?_ ?_ | refine goM ?_ ?_ ?_ ?_ ?_ | refine goN ?_ ?_ | refine goO ?_ ?_ | with_reducible refine goP ?_)
  all_goals try conv => whnf
  all_goals try (refine aac.mk ?_; try dsimp only)
  all_goals (try simp only [hij, h192, h63] at *)
  all_goals first
    | (refine stay ?_)
    | (first | trivial | omega | (simp (discharger := omega) only [wR]; omega) | (simp only [lnS]; omega) | (simp (discharger := omega) [-List.getD_eq_getElem?_getD, wR] <;> omega)) | skip
  · have hc : cont (s.getD (i + j) 0) = true := decide_eq_true (by omega)
    rw [show n - j = (n - j - 1) + 1 by omega, arl, if_pos hc] at he
    refine ⟨[], (j + 1, 64 * a + (s.getD (i + j) 0).toNat % 64), ⟨by omega, by omega, by omega, ?_⟩, ?_, by omega⟩
    · rw [show n - (j + 1) = n - j - 1 by omega, show i + (j + 1) = i + j + 1 by omega]; exact he
    · refine Go.VG.Sub.mk rfl ?_ ?_ ?_ ?_ <;> (repeat' first | trivial | rfl | exact eqS _ _ | apply And.intro | apply eqA | apply eqB | apply eqC | apply eqD | apply eqE | apply eqF | apply eqG | apply eqH | apply eqI)
      · rw [a8l a (by omega), show IntKind.i32.wrap (((s.getD (i + j) 0).toNat % 64 : Nat) : Int) = (((s.getD (i + j) 0).toNat % 64 : Nat) : Int) by (first | omega | (simp (discharger := omega) only [wR]; omega) | (simp only [lnS]; omega) | (simp (discharger := omega) [-List.getD_eq_getElem?_getD, wR] <;> omega))]
        exact bb8 _ _ (by omega) (by omega)
      · (first | omega | (simp (discharger := omega) only [wR]; omega) | (simp only [lnS]; omega) | (simp (discharger := omega) [-List.getD_eq_getElem?_getD, wR] <;> omega))
  · have hc : ¬ cont (s.getD (i + j) 0) = true := by
      unfold cont; rw [decide_eq_true_eq]; omega
    rw [show n - j = (n - j - 1) + 1 by omega, arl, if_neg hc] at he
    rw [← he]
    refine aa9.mk [] ?_ <;> (repeat' first | trivial | rfl | exact eqS _ _ | apply And.intro | apply eqA | apply eqB | apply eqC | apply eqD | apply eqE | apply eqF | apply eqG | apply eqH | apply eqI)
  all_goals
    rw [show n - j = 0 by omega, arl] at he
    rw [← he, am7]
    first
    | rw [if_pos (by assumption)]
    | rw [if_neg (by assumption), if_pos (show uIs a = true from decide_eq_true (by assumption))]
    | rw [if_neg (by assumption), if_neg (by unfold uIs; rw [decide_eq_true_eq]; assumption)]
    refine aa9.mk [] ?_ <;> (repeat' first | trivial | rfl | exact eqS _ _ | apply And.intro | apply eqA | apply eqB | apply eqC | apply eqD | apply eqE | apply eqF | apply eqG | apply eqH | apply eqI)
end Go.Proofs.Ytllncocibkgjkaa
