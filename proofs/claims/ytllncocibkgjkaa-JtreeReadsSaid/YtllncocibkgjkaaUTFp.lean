/-
  Characters: the program's check of a text, and how it lays a character.
-/
import Derived.Test.YtllncocibkgjkaaUTFe
import Derived.Test.YtllncocibkgjkaaPHex
set_option linter.unusedSimpArgs false
set_option linter.unusedVariables false
set_option maxHeartbeats 4000000
namespace Go.Proofs.Ytllncocibkgjkaa
open Go Go.VG
set_option maxRecDepth 100000
theorem a3m (s : List UInt8) (i : Nat) (hp : s.length ≤ 100000000) : OK 112 ([.str s, .int .i64 i]) ([]) (.tuple [.int .i32 (abr s i).1, .int .i64 (abr s i).2]) (none) := by
  rw [← aui]; exact ba0 s i hp
def aqs : Sm := fun args σ => match args, σ with
  | [.str s, .int .i64 (.ofNat i)], [] => some (s.length ≤ 100000000, .tuple [.int .i32 (abr s i).1, .int .i64 (abr s i).2], none)
  | _, _ => none
theorem bao : SOK 112 aqs := by
  intro args sg pre x r he hp
  unfold aqs at he
  split at he <;> cases he
  · exact a3m (hp := hp) ..
theorem az2 (s : List UInt8) (hp : s.length ≤ 10000000) : OK 96 ([.str s]) ([]) (.int .i64 (ak7 s)) (none) := by
  refine aa0 (C := cx [(112, aqs)]) (abh ⟨bao, trivial⟩) (fn := Try.f96) rfl rfl rfl rfl fun hw hs => ?_
  refine abt.mk (Nat × Nat) (fun | (i, c) => i ≤ s.length ∧ c ≤ i ∧ anl s i c = anl s 0 0)
    (fun | (i, _) => ⟨22, [(3, .int .i64 i), (0, .str s)], [], []⟩) (fun x => s.length - x.1) [] (0, 0) ⟨by omega, by omega, rfl⟩ ?_ (fun ⟨i, c⟩ ⟨hi, hc, he⟩ _ _ => ?_)
  · refine Go.VG.Sub.mk rfl ?_ ?_ ?_ ?_ <;> (repeat' first | trivial | rfl | exact eqS _ _ | apply And.intro | apply eqA | apply eqB | apply eqC | apply eqD | apply eqE | apply eqF | apply eqG | apply eqH | apply eqI)
  have hr := av1 s i
  repeat' ((conv => whnf); first | with_reducible (first | refine go1 (fun j q h => ?_) fun h => ?_ | refine go2 ⟨rfl, rfl⟩ (fun h => ?_) fun j h => ?_ | refine go2 ?_ (fun h => ?_) fun j h => ?_ | refine goQ ?_ (fun h => ?_) fun h => ?_) | refine go3 ?_ ?_ | refine go4 ?_ ?_ | refine go5 ?_ | ((first | refine go6 ?_ ?_ | refine go7 ?_ ?_ | refine go8 ?_ ?_ | refine go9 ?_ ?_ | refine goA ?_ ?_) <;> intro h) | with_reducible (first | refine aai.mk _ rfl ?_ | refine goB ?_ fun hc => ?_ | refine goC ?_ fun hc => ?_ | refine goD ?_ fun hc => ?_ | refine goE ?_ fun hc => ?_ | refine goF ?_ ?_ | refine goG ?_ ?_ | refine goH ?_ fun b hb => ?_) | refine goI ?_ | refine goJ ?_ ?_ | refine goK ?_ ?_ ?_ | refine goL ?_ ?_ ?_ ?_ | refine goM ?_ ?_ ?_ ?_ ?_ | refine goN ?_ ?_ | refine goO ?_ ?_ | with_reducible refine goP ?_)
  all_goals try conv => whnf
  all_goals try (refine aac.mk ?_; try dsimp only)
  all_goals first
    | (refine stay ?_)
    | (first | trivial | omega | (simp (discharger := omega) only [wR]; omega) | (simp only [lnS]; omega) | (simp (discharger := omega) [-List.getD_eq_getElem?_getD, wR] <;> omega)) | skip
  · rw [anl, if_neg (by omega), dif_pos (by omega)] at he
    unfold ak7
    rw [← he, if_neg (by simp only; omega)]
    refine aa9.mk [] ?_ <;> (repeat' first | trivial | rfl | exact eqS _ _ | apply And.intro | apply eqA | apply eqB | apply eqC | apply eqD | apply eqE | apply eqF | apply eqG | apply eqH | apply eqI)
  · rw [anl, if_neg (by omega), dif_neg (by omega)] at he
    refine ⟨[], (i + (abr s i).2, c + 1), ⟨by omega, by omega, he⟩, ?_, by omega⟩
    refine Go.VG.Sub.mk rfl ?_ ?_ ?_ ?_ <;> (repeat' first | trivial | rfl | exact eqS _ _ | apply And.intro | apply eqA | apply eqB | apply eqC | apply eqD | apply eqE | apply eqF | apply eqG | apply eqH | apply eqI)
    all_goals (first | omega | (simp (discharger := omega) only [wR]; omega) | (simp only [lnS]; omega) | (simp (discharger := omega) [-List.getD_eq_getElem?_getD, wR] <;> omega))
  · rw [anl, if_pos (by omega)] at he
    unfold ak7
    rw [← he, if_pos (by simp only; omega)]
    refine aa9.mk [] ?_ <;> (repeat' first | trivial | rfl | exact eqS _ _ | apply And.intro | apply eqA | apply eqB | apply eqC | apply eqD | apply eqE | apply eqF | apply eqG | apply eqH | apply eqI)
def ani : Sm := fun args σ => match args, σ with
  | [.str s], [] => some (s.length ≤ 10000000, .int .i64 (ak7 s), none)
  | _, _ => none
theorem a77 : SOK 96 ani := by
  intro args sg pre x r he hp
  unfold ani at he
  split at he <;> cases he
  · exact az2 (hp := hp) ..
def akv (r : Int) : Int := if r < 128 then 1 else if r < 2048 then 2 else if r < 65536 then 3 else 4
def asx (r n : Int) : Sm := fun args σ => some (args = [.int .i32 r] ∧ σ = [] ∧ akv r = n, .int .i64 n, none)
theorem ba7 (r n : Int) : SOK 111 (asx r n) := by
  intro args sg pre x rr he hp
  unfold asx at he
  cases he
  obtain ⟨rfl, rfl, rfl⟩ := hp
  refine aa0 (C := cx []) (abh trivial) (fn := Try.f111) rfl rfl rfl rfl fun hw hs => ?_
  repeat' ((conv => whnf); first | with_reducible (first | refine go1 (fun j q h => ?_) fun h => ?_ | refine go2 ⟨rfl, rfl⟩ (fun h => ?_) fun j h => ?_ | refine go2 ?_ (fun h => ?_) fun j h => ?_ | refine goQ ?_ (fun h => ?_) fun h => ?_) | refine go3 ?_ ?_ | refine go4 ?_ ?_ | refine go5 ?_ | ((first | refine go6 ?_ ?_ | refine go7 ?_ ?_ | refine go8 ?_ ?_ | refine go9 ?_ ?_ | refine goA ?_ ?_) <;> intro h) | with_reducible (first | refine aai.mk _ rfl ?_ | refine goB ?_ fun hc => ?_ | refine goC ?_ fun hc => ?_ | refine goD ?_ fun hc => ?_ | refine goE ?_ fun hc => ?_ | refine goF ?_ ?_ | refine goG ?_ ?_ | refine goH ?_ fun b hb => ?_) | refine goI ?_ | refine goJ ?_ ?_ | refine goK ?_ ?_ ?_ | refine goL ?_ ?_ ?_ ?_ | refine goM ?_ ?_ ?_ ?_ ?_ | refine goN ?_ ?_ | refine goO ?_ ?_ | with_reducible refine goP ?_)
  all_goals try conv => whnf
  all_goals try (refine aac.mk ?_; try dsimp only)
  all_goals first
    | (refine stay ?_)
    | (first | trivial | omega | (simp (discharger := omega) only [wR]; omega) | (simp only [lnS]; omega) | (simp (discharger := omega) [-List.getD_eq_getElem?_getD, wR] <;> omega)) | skip
  all_goals
    unfold akv
    repeat (first | rw [if_pos (by omega)] | rw [if_neg (by omega)])
    refine aa9.mk [] ?_ <;> (repeat' first | trivial | rfl | exact eqS _ _ | apply And.intro | apply eqA | apply eqB | apply eqC | apply eqD | apply eqE | apply eqF | apply eqG | apply eqH | apply eqI)
theorem bb9 (a b j : Nat) (ha : a * 2 ^ j + b < 256) (hb : b < 2 ^ j) : iOr .u8 ((a * 2 ^ j : Nat) : Int) (b : Int) = ((a * 2 ^ j + b : Nat) : Int) := by
  show IntKind.u8.wrap ((BitVec.ofInt 8 ((a * 2 ^ j : Nat) : Int) ||| BitVec.ofInt 8 (b : Int)).toNat : Int) = _
  rw [BitVec.ofInt_natCast, BitVec.ofInt_natCast, BitVec.toNat_or, BitVec.toNat_ofNat, BitVec.toNat_ofNat, Nat.mod_eq_of_lt (by omega), Nat.mod_eq_of_lt (by omega), a7y a b j hb]
  rw [wu8]; omega
theorem or_128 (b : Nat) (h : b < 64) : iOr .u8 128 b = ((128 + b : Nat) : Int) := bb9 2 b 6 (by omega) (by omega)
theorem or_192 (b : Nat) (h : b < 32) : iOr .u8 192 b = ((192 + b : Nat) : Int) := bb9 6 b 5 (by omega) (by omega)
theorem or_224 (b : Nat) (h : b < 16) : iOr .u8 224 b = ((224 + b : Nat) : Int) := bb9 14 b 4 (by omega) (by omega)
theorem or_240 (b : Nat) (h : b < 8) : iOr .u8 240 b = ((240 + b : Nat) : Int) := bb9 30 b 3 (by omega) (by omega)
theorem copy_eq (l : List V) : List.take (List.replicate (l.length : Int).toNat (V.int .u8 0)).length l ++ List.drop l.length (List.replicate (l.length : Int).toNat (V.int .u8 0)) = l := by simp
theorem a63 (x : Nat) : iOr .u8 128 (bcb .u8 (IntKind.u8.wrap x) 63) = ((128 + x % 64 : Nat) : Int) := by
  rw [wu8, show ((x : Int) % 256) = ((x % 256 : Nat) : Int) by omega, ave _ (by omega), show x % 256 % 64 = x % 64 by omega]
  exact or_128 _ (by omega)
theorem s6 (r : Nat) : a6r .i32 r 6 = ((r / 64 : Nat) : Int) := aom .i32 r 6
theorem s12 (r : Nat) : a6r .i32 r 12 = ((r / 4096 : Nat) : Int) := aom .i32 r 12
theorem s18 (r : Nat) : a6r .i32 r 18 = ((r / 262144 : Nat) : Int) := aom .i32 r 18
theorem bat (r : Nat) (h : r < 2048) : iOr .u8 (a6q .u8 240 (IntKind.i64.wrap (4 - 2))) (IntKind.u8.wrap (a6r .i32 r (IntKind.i64.wrap (6 * IntKind.i64.wrap (2 - 1))))) = ((192 + r / 64 : Nat) : Int) := by
  rw [show a6q .u8 240 (IntKind.i64.wrap (4 - 2)) = 192 by decide, show IntKind.i64.wrap (6 * IntKind.i64.wrap (2 - 1)) = 6 by decide, s6, aou _ (by show ((r / 64 : Nat) : Int) ≤ 255; omega)]
  exact or_192 _ (by omega)
theorem bau (r : Nat) (h : r < 65536) : iOr .u8 (a6q .u8 240 (IntKind.i64.wrap (4 - 3))) (IntKind.u8.wrap (a6r .i32 r (IntKind.i64.wrap (6 * IntKind.i64.wrap (3 - 1))))) = ((224 + r / 4096 : Nat) : Int) := by
  rw [show a6q .u8 240 (IntKind.i64.wrap (4 - 3)) = 224 by decide, show IntKind.i64.wrap (6 * IntKind.i64.wrap (3 - 1)) = 12 by decide, s12, aou _ (by show ((r / 4096 : Nat) : Int) ≤ 255; omega)]
  exact or_224 _ (by omega)
theorem bav (r : Nat) (h : r < 1114112) : iOr .u8 (a6q .u8 240 (IntKind.i64.wrap (4 - 4))) (IntKind.u8.wrap (a6r .i32 r (IntKind.i64.wrap (6 * IntKind.i64.wrap (4 - 1))))) = ((240 + r / 262144 : Nat) : Int) := by
  rw [show a6q .u8 240 (IntKind.i64.wrap (4 - 4)) = 240 by decide, show IntKind.i64.wrap (6 * IntKind.i64.wrap (4 - 1)) = 18 by decide, s18, aou _ (by show ((r / 262144 : Nat) : Int) ≤ 255; omega)]
  exact or_240 _ (by omega)
theorem atb (x : Int) (h : 0 ≤ x ∧ x ≤ 255) (s : List UInt8) : bl (byte x :: s) = V.int .u8 x :: bl s := by simp only [bl, bv, ab3 h]
theorem bd7 (l : List V) (r : Nat) (hu : uIs r = true) (hn : akv r = 1) (hl : l.length ≤ 3000000000) : OK 93 [.buf 0, .int .i32 r] [.buf 1 0 l] (.buf 0) (some [.buf 1 0 (l ++ bl (aaj r))]) := by
  refine aa0 (C := cx [(110, akt), (111, asx r 1)]) (abh ⟨awo, ba7 r 1, trivial⟩) (fn := Try.f93) rfl rfl rfl rfl fun hw hs => ?_
  repeat' ((conv => whnf); first | with_reducible (first | refine go1 (fun j q h => ?_) fun h => ?_ | refine go2 ⟨rfl, rfl⟩ (fun h => ?_) fun j h => ?_ | refine go2 ?_ (fun h => ?_) fun j h => ?_ | refine goQ ?_ (fun h => ?_) fun h => ?_) | refine go3 ?_ ?_ | refine go4 ?_ ?_ | refine go5 ?_ | ((first | refine go6 ?_ ?_ | refine go7 ?_ ?_ | refine go8 ?_ ?_ | refine go9 ?_ ?_ | refine goA ?_ ?_) <;> intro h) | with_reducible (first | refine aai.mk _ rfl ?_ | refine goB ?_ fun hc => ?_ | refine goC ?_ fun hc => ?_ | refine goD ?_ fun hc => ?_ | refine goE ?_ fun hc => ?_ | refine goF ?_ ?_ | refine goG ?_ ?_ | refine goH ?_ fun b hb => ?_) | refine goI ?_ | refine goJ ?_ ?_ | refine goK ?_ ?_ ?_ | refine goL ?_ ?_ ?_ ?_ | refine goM ?_ ?_ ?_ ?_ ?_ | refine goN ?_ ?_ | refine goO ?_ ?_ | with_reducible refine goP ?_)
  all_goals try conv => whnf
  all_goals try (refine aac.mk ?_; try dsimp only)
  all_goals first
    | (refine stay ?_)
    | (first | trivial | omega | (simp (discharger := omega) only [wR]; omega) | (simp only [lnS]; omega) | (simp (discharger := omega) [-List.getD_eq_getElem?_getD, wR] <;> omega)) | skip
  · have hb := (am6 _).1 hu
    have hr : (1 = 1 ∧ r < 128) ∨ (1 = 2 ∧ 128 ≤ r ∧ r < 2048) ∨ (1 = 3 ∧ 2048 ≤ r ∧ r < 65536) ∨ (1 = 4 ∧ 65536 ≤ r ∧ r < 1114112) := by
      unfold akv at hn
      repeat' split at hn
      all_goals omega
    refine aa9.mk [.swap 0 1] ?_ <;> (repeat' first | trivial | rfl | exact eqS _ _ | apply And.intro | apply eqA | apply eqB | apply eqC | apply eqD | apply eqE | apply eqF | apply eqG | apply eqH | apply eqI)
    rw [copy_eq]
    try rw [bat r (by omega)]
    try rw [bau r (by omega)]
    try rw [bav r (by omega)]
    try simp only [s6, s12, a63]
    unfold aaj
    repeat (first | rw [if_pos (by omega)] | rw [if_neg (by omega)])
    repeat rw [atb _ (by omega)]
    try simp only [List.append_assoc, List.cons_append, List.nil_append]
    repeat' (first | rfl | refine congrArg (l ++ ·) ?_ | refine ap5 ?_ ?_ | refine congrArg (V.int .u8) ?_)
    all_goals (first | omega | (simp (discharger := omega) only [wR]; omega) | (simp only [lnS]; omega) | (simp (discharger := omega) [-List.getD_eq_getElem?_getD, wR] <;> omega))
  · exact absurd ((am6 _).1 hu) (by assumption)
theorem bd8 (l : List V) (r : Nat) (hu : uIs r = true) (hn : akv r = 2) (hl : l.length ≤ 3000000000) : OK 93 [.buf 0, .int .i32 r] [.buf 1 0 l] (.buf 0) (some [.buf 1 0 (l ++ bl (aaj r))]) := by
  refine aa0 (C := cx [(110, akt), (111, asx r 2)]) (abh ⟨awo, ba7 r 2, trivial⟩) (fn := Try.f93) rfl rfl rfl rfl fun hw hs => ?_
  repeat' ((conv => whnf); first | with_reducible (first | refine go1 (fun j q h => ?_) fun h => ?_ | refine go2 ⟨rfl, rfl⟩ (fun h => ?_) fun j h => ?_ | refine go2 ?_ (fun h => ?_) fun j h => ?_ | refine goQ ?_ (fun h => ?_) fun h => ?_) | refine go3 ?_ ?_ | refine go4 ?_ ?_ | refine go5 ?_ | ((first | refine go6 ?_ ?_ | refine go7 ?_ ?_ | refine go8 ?_ ?_ | refine go9 ?_ ?_ | refine goA ?_ ?_) <;> intro h) | with_reducible (first | refine aai.mk _ rfl ?_ | refine goB ?_ fun hc => ?_ | refine goC ?_ fun hc => ?_ | refine goD ?_ fun hc => ?_ | refine goE ?_ fun hc => ?_ | refine goF ?_ ?_ | refine goG ?_ ?_ | refine goH ?_ fun b hb => ?_) | refine goI ?_ | refine goJ ?_ ?_ | refine goK ?_ ?_ ?_ | refine goL ?_ ?_ ?_ ?_ | refine goM ?_ ?_ ?_ ?_ ?_ | refine goN ?_ ?_ | refine goO ?_ ?_ | with_reducible refine goP ?_)
  all_goals try conv => whnf
  all_goals try (refine aac.mk ?_; try dsimp only)
  all_goals first
    | (refine stay ?_)
    | (first | trivial | omega | (simp (discharger := omega) only [wR]; omega) | (simp only [lnS]; omega) | (simp (discharger := omega) [-List.getD_eq_getElem?_getD, wR] <;> omega)) | skip
  · have hb := (am6 _).1 hu
    have hr : (2 = 1 ∧ r < 128) ∨ (2 = 2 ∧ 128 ≤ r ∧ r < 2048) ∨ (2 = 3 ∧ 2048 ≤ r ∧ r < 65536) ∨ (2 = 4 ∧ 65536 ≤ r ∧ r < 1114112) := by
      unfold akv at hn
      repeat' split at hn
      all_goals omega
    refine aa9.mk [.swap 0 1] ?_ <;> (repeat' first | trivial | rfl | exact eqS _ _ | apply And.intro | apply eqA | apply eqB | apply eqC | apply eqD | apply eqE | apply eqF | apply eqG | apply eqH | apply eqI)
    rw [copy_eq]
    try rw [bat r (by omega)]
    try rw [bau r (by omega)]
    try rw [bav r (by omega)]
    try simp only [s6, s12, a63]
    unfold aaj
    repeat (first | rw [if_pos (by omega)] | rw [if_neg (by omega)])
    repeat rw [atb _ (by omega)]
    try simp only [List.append_assoc, List.cons_append, List.nil_append]
    repeat' (first | rfl | refine congrArg (l ++ ·) ?_ | refine ap5 ?_ ?_ | refine congrArg (V.int .u8) ?_)
    all_goals (first | omega | (simp (discharger := omega) only [wR]; omega) | (simp only [lnS]; omega) | (simp (discharger := omega) [-List.getD_eq_getElem?_getD, wR] <;> omega))
  · exact absurd ((am6 _).1 hu) (by assumption)
theorem bd9 (l : List V) (r : Nat) (hu : uIs r = true) (hn : akv r = 3) (hl : l.length ≤ 3000000000) : OK 93 [.buf 0, .int .i32 r] [.buf 1 0 l] (.buf 0) (some [.buf 1 0 (l ++ bl (aaj r))]) := by
  refine aa0 (C := cx [(110, akt), (111, asx r 3)]) (abh ⟨awo, ba7 r 3, trivial⟩) (fn := Try.f93) rfl rfl rfl rfl fun hw hs => ?_
  repeat' ((conv => whnf); first | with_reducible (first | refine go1 (fun j q h => ?_) fun h => ?_ | refine go2 ⟨rfl, rfl⟩ (fun h => ?_) fun j h => ?_ | refine go2 ?_ (fun h => ?_) fun j h => ?_ | refine goQ ?_ (fun h => ?_) fun h => ?_) | refine go3 ?_ ?_ | refine go4 ?_ ?_ | refine go5 ?_ | ((first | refine go6 ?_ ?_ | refine go7 ?_ ?_ | refine go8 ?_ ?_ | refine go9 ?_ ?_ | refine goA ?_ ?_) <;> intro h) | with_reducible (first | refine aai.mk _ rfl ?_ | refine goB ?_ fun hc => ?_ | refine goC ?_ fun hc => ?_ | refine goD ?_ fun hc => ?_ | refine goE ?_ fun hc => ?_ | refine goF ?_ ?_ | refine goG ?_ ?_ | refine goH ?_ fun b hb => ?_) | refine goI ?_ | refine goJ ?_ ?_ | refine goK ?_ ?_ ?_ | refine goL ?_ ?_ ?_ ?_ | refine goM ?_ ?_ ?_ ?_ ?_ | refine goN ?_ ?_ | refine goO ?_ ?_ | with_reducible refine goP ?_)
  all_goals try conv => whnf
  all_goals try (refine aac.mk ?_; try dsimp only)
  all_goals first
    | (refine stay ?_)
    | (first | trivial | omega | (simp (discharger := omega) only [wR]; omega) | (simp only [lnS]; omega) | (simp (discharger := omega) [-List.getD_eq_getElem?_getD, wR] <;> omega)) | skip
  · have hb := (am6 _).1 hu
    have hr : (3 = 1 ∧ r < 128) ∨ (3 = 2 ∧ 128 ≤ r ∧ r < 2048) ∨ (3 = 3 ∧ 2048 ≤ r ∧ r < 65536) ∨ (3 = 4 ∧ 65536 ≤ r ∧ r < 1114112) := by
      unfold akv at hn
      repeat' split at hn
      all_goals omega
    refine aa9.mk [.swap 0 1] ?_ <;> (repeat' first | trivial | rfl | exact eqS _ _ | apply And.intro | apply eqA | apply eqB | apply eqC | apply eqD | apply eqE | apply eqF | apply eqG | apply eqH | apply eqI)
    rw [copy_eq]
    try rw [bat r (by omega)]
    try rw [bau r (by omega)]
    try rw [bav r (by omega)]
    try simp only [s6, s12, a63]
    unfold aaj
    repeat (first | rw [if_pos (by omega)] | rw [if_neg (by omega)])
    repeat rw [atb _ (by omega)]
    try simp only [List.append_assoc, List.cons_append, List.nil_append]
    repeat' (first | rfl | refine congrArg (l ++ ·) ?_ | refine ap5 ?_ ?_ | refine congrArg (V.int .u8) ?_)
    all_goals (first | omega | (simp (discharger := omega) only [wR]; omega) | (simp only [lnS]; omega) | (simp (discharger := omega) [-List.getD_eq_getElem?_getD, wR] <;> omega))
  · exact absurd ((am6 _).1 hu) (by assumption)
theorem bda (l : List V) (r : Nat) (hu : uIs r = true) (hn : akv r = 4) (hl : l.length ≤ 3000000000) : OK 93 [.buf 0, .int .i32 r] [.buf 1 0 l] (.buf 0) (some [.buf 1 0 (l ++ bl (aaj r))]) := by
  refine aa0 (C := cx [(110, akt), (111, asx r 4)]) (abh ⟨awo, ba7 r 4, trivial⟩) (fn := Try.f93) rfl rfl rfl rfl fun hw hs => ?_
  repeat' ((conv => whnf); first | with_reducible (first | refine go1 (fun j q h => ?_) fun h => ?_ | refine go2 ⟨rfl, rfl⟩ (fun h => ?_) fun j h => ?_ | refine go2 ?_ (fun h => ?_) fun j h => ?_ | refine goQ ?_ (fun h => ?_) fun h => ?_) | refine go3 ?_ ?_ | refine go4 ?_ ?_ | refine go5 ?_ | ((first | refine go6 ?_ ?_ | refine go7 ?_ ?_ | refine go8 ?_ ?_ | refine go9 ?_ ?_ | refine goA ?_ ?_) <;> intro h) | with_reducible (first | refine aai.mk _ rfl ?_ | refine goB ?_ fun hc => ?_ | refine goC ?_ fun hc => ?_ | refine goD ?_ fun hc => ?_ | refine goE ?_ fun hc => ?_ | refine goF ?_ ?_ | refine goG ?_ ?_ | refine goH ?_ fun b hb => ?_) | refine goI ?_ | refine goJ ?_ ?_ | refine goK ?_ ?_ ?_ | refine goL ?_ ?_ ?_ ?_ | refine goM ?_ ?_ ?_ ?_ ?_ | refine goN ?_ ?_ | refine goO ?_ ?_ | with_reducible refine goP ?_)
  all_goals try conv => whnf
  all_goals try (refine aac.mk ?_; try dsimp only)
  all_goals first
    | (refine stay ?_)
    | (first | trivial | omega | (simp (discharger := omega) only [wR]; omega) | (simp only [lnS]; omega) | (simp (discharger := omega) [-List.getD_eq_getElem?_getD, wR] <;> omega)) | skip
  · have hb := (am6 _).1 hu
    have hr : (4 = 1 ∧ r < 128) ∨ (4 = 2 ∧ 128 ≤ r ∧ r < 2048) ∨ (4 = 3 ∧ 2048 ≤ r ∧ r < 65536) ∨ (4 = 4 ∧ 65536 ≤ r ∧ r < 1114112) := by
      unfold akv at hn
      repeat' split at hn
      all_goals omega
    refine aa9.mk [.swap 0 1] ?_ <;> (repeat' first | trivial | rfl | exact eqS _ _ | apply And.intro | apply eqA | apply eqB | apply eqC | apply eqD | apply eqE | apply eqF | apply eqG | apply eqH | apply eqI)
    rw [copy_eq]
    try rw [bat r (by omega)]
    try rw [bau r (by omega)]
    try rw [bav r (by omega)]
    try simp only [s6, s12, a63]
    unfold aaj
    repeat (first | rw [if_pos (by omega)] | rw [if_neg (by omega)])
    repeat rw [atb _ (by omega)]
    try simp only [List.append_assoc, List.cons_append, List.nil_append]
    repeat' (first | rfl | refine congrArg (l ++ ·) ?_ | refine ap5 ?_ ?_ | refine congrArg (V.int .u8) ?_)
    all_goals (first | omega | (simp (discharger := omega) only [wR]; omega) | (simp only [lnS]; omega) | (simp (discharger := omega) [-List.getD_eq_getElem?_getD, wR] <;> omega))
  · exact absurd ((am6 _).1 hu) (by assumption)
theorem a9z (l : List V) (r : Int) (hp : uIs r = true ∧ l.length ≤ 3000000000) : OK 93 ([.buf 0, .int .i32 r]) ([.buf 1 0 l]) (.buf 0) (some [.buf 1 0 (l ++ bl (aaj r))]) := by
  obtain ⟨hu, hl⟩ := hp
  obtain ⟨n, rfl⟩ := Int.eq_ofNat_of_zero_le ((am6 _).1 hu).1
  have : akv n = 1 ∨ akv n = 2 ∨ akv n = 3 ∨ akv n = 4 := by
    unfold akv; repeat' split
    all_goals simp
  rcases this with h | h | h | h
  · exact bd7 l n hu h hl
  · exact bd8 l n hu h hl
  · exact bd9 l n hu h hl
  · exact bda l n hu h hl
def a07 : Sm := fun args σ => match args, σ with
  | [.buf 0, .int .i32 r], [.buf 1 0 l] => some (uIs r = true ∧ l.length ≤ 3000000000, .buf 0, some [.buf 1 0 (l ++ bl (aaj r))])
  | _, _ => none
theorem k_uPut : SOK 93 a07 := by
  intro args sg pre x r he hp
  unfold a07 at he
  split at he <;> cases he
  · exact a9z (hp := hp) ..
end Go.Proofs.Ytllncocibkgjkaa
