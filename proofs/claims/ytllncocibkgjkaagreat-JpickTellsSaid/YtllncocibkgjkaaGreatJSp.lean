/-
  A part of the proof.
-/
import Derived.Test.YtllncocibkgjkaaGreatUTFe
import Derived.Test.YtllncocibkgjkaaGreatPHex
import Derived.Test.YtllncocibkgjkaaGreatCU
set_option linter.unusedSimpArgs false
set_option linter.unusedVariables false
set_option maxHeartbeats 4000000
namespace Go.Proofs.YtllncocibkgjkaaGreat
open Go Go.VG
set_option maxRecDepth 100000
theorem Hm (s : List UInt8) (i : Nat) (hp : s.length ≤ 100000000) : OK 146 ([.str s, .int .i64 i]) ([]) (.tuple [.int .i32 (bg s i).1, .int .i64 (bg s i).2]) (none) := by
 rw [← ng]; exact Hl s i hp
def xU : Sm := fun args σ => match args, σ with
 | [.str s, .int .i64 (.ofNat i)], [] => some (s.length ≤ 100000000, .tuple [.int .i32 (bg s i).1, .int .i64 (bg s i).2], none)
 | _, _ => none
theorem J3 : aw 146 xU := by
 intro args sg pre x r he hp
 unfold xU at he
 split at he <;> cases he
 . exact Hm (hp := hp) ..
theorem Ha (s : List UInt8) (hp : s.length ≤ 10000000) : OK 135 ([.str s]) ([]) (.int .i64 (kf s)) (none) := by
 refine au (C := cx [(146, xU)]) (aq ⟨J3, trivial⟩) (fn := Tryz.f135) rfl rfl rfl rfl fun hw hs => ?_
 refine aU.mk (Nat × Nat) (fun | (i, c) => i ≤ s.length ∧ c ≤ i ∧ iG s i c = iG s 0 0)
  (fun | (i, _) => ⟨22, [(3, .int .i64 i), (0, .str s)], [], []⟩) (fun x => s.length - x.1) [] (0, 0) ⟨by omega, by omega, rfl⟩ ?_ (fun ⟨i, c⟩ ⟨hi, hc, he⟩ _ _ => ?_)
 . refine Go.VG.Sub.mk rfl ?_ ?_ ?_ ?_ <;> (repeat' first | trivial)
 have hr := qY s i
 repeat' ((conv => whnf); first | apply ak | (apply al <;> intro h))
 all_goals try conv => whnf
 all_goals try (refine a9.mk ?_; try dsimp only)
 all_goals first | refine stay ?_ | omega | skip
 . rw [iG, if_neg (by omega), dif_pos (by omega)] at he
   unfold kf
   rw [← he, if_neg (by simp only; omega)]
   refine a8.mk [] ?_ <;> (repeat' first | trivial)
 . rw [iG, if_neg (by omega), dif_neg (by omega)] at he
   refine ⟨[], (i + (bg s i).2, c + 1), ⟨by omega, by omega, he⟩, ?_, by omega⟩
   refine Go.VG.Sub.mk rfl ?_ ?_ ?_ ?_ <;> (repeat' first | trivial | apply ae | apply aI)
   all_goals (simp (discharger := omega) only [wR]; omega)
 . rw [iG, if_pos (by omega)] at he
   unfold kf
   rw [← he, if_pos (by simp only; omega)]
   refine a8.mk [] ?_ <;> (repeat' first | trivial)
def xN : Sm := fun args σ => match args, σ with
 | [.str s], [] => some (s.length ≤ 10000000, .int .i64 (kf s), none)
 | _, _ => none
theorem IX : aw 135 xN := by
 intro args sg pre x r he hp
 unfold xN at he
 split at he <;> cases he
 . exact Ha (hp := hp) ..
def gR (r : Int) : Int := if r < 128 then 1 else if r < 2048 then 2 else if r < 65536 then 3 else 4
def oW (r n : Int) : Sm := fun args σ => some (args = [.int .i32 r] ∧ σ = [] ∧ gR r = n, .int .i64 n, none)
theorem rZ (r n : Int) : aw 145 (oW r n) := by
 intro args sg pre x rr he hp
 unfold oW at he
 cases he
 obtain ⟨rfl, rfl, rfl⟩ := hp
 refine au (C := cx []) (aq trivial) (fn := Tryz.f145) rfl rfl rfl rfl fun hw hs => ?_
 repeat' ((conv => whnf); (apply al <;> intro h))
 all_goals try conv => whnf
 all_goals try (refine a9.mk ?_; try dsimp only)
 all_goals try refine stay ?_
 all_goals
  unfold gR
  repeat (first | rw [if_pos (by omega)] | rw [if_neg (by omega)])
  refine a8.mk [] ?_ <;> (repeat' first | trivial)
theorem sF (a b j : Nat) (ha : a * 2 ^ j + b < 256) (hb : b < 2 ^ j) : iX .u8 ((a * 2 ^ j : Nat) : Int) (b : Int) = ((a * 2 ^ j + b : Nat) : Int) := by
 show IntKind.u8.wrap ((BitVec.ofInt 8 ((a * 2 ^ j : Nat) : Int) ||| BitVec.ofInt 8 (b : Int)).toNat : Int) = _
 rw [BitVec.ofInt_natCast, BitVec.ofInt_natCast, BitVec.toNat_or, BitVec.toNat_ofNat, BitVec.toNat_ofNat, Nat.mod_eq_of_lt (by omega), Nat.mod_eq_of_lt (by omega), vM a b j hb]
 rw [kW]; omega
theorem JT (b : Nat) (h : b < 64) : iX .u8 128 b = ((128 + b : Nat) : Int) := sF 2 b 6 (by omega) (by omega)
theorem JU (b : Nat) (h : b < 32) : iX .u8 192 b = ((192 + b : Nat) : Int) := sF 6 b 5 (by omega) (by omega)
theorem JV (b : Nat) (h : b < 16) : iX .u8 224 b = ((224 + b : Nat) : Int) := sF 14 b 4 (by omega) (by omega)
theorem JW (b : Nat) (h : b < 8) : iX .u8 240 b = ((240 + b : Nat) : Int) := sF 30 b 3 (by omega) (by omega)
theorem copy_eq (l : List V) : List.take (List.replicate (l.length : Int).toNat (V.int .u8 0)).length l ++ List.drop l.length (List.replicate (l.length : Int).toNat (V.int .u8 0)) = l := by simp
theorem a63 (x : Nat) : iX .u8 128 (ou .u8 (IntKind.u8.wrap x) 63) = ((128 + x % 64 : Nat) : Int) := by
 rw [kW, show ((x : Int) % 256) = ((x % 256 : Nat) : Int) by omega, yD _ (by omega), show x % 256 % 64 = x % 64 by omega]
 exact JT _ (by omega)
theorem s6 (r : Nat) : jP .i32 r 6 = ((r / 64 : Nat) : Int) := v7 .i32 r 6
theorem s12 (r : Nat) : jP .i32 r 12 = ((r / 4096 : Nat) : Int) := v7 .i32 r 12
theorem s18 (r : Nat) : jP .i32 r 18 = ((r / 262144 : Nat) : Int) := v7 .i32 r 18
theorem si (r : Nat) (h : r < 2048) : iX .u8 (jl .u8 240 (IntKind.i64.wrap (4 - 2))) (IntKind.u8.wrap (jP .i32 r (IntKind.i64.wrap (6 * IntKind.i64.wrap (2 - 1))))) = ((192 + r / 64 : Nat) : Int) := by
 rw [show jl .u8 240 (IntKind.i64.wrap (4 - 2)) = 192 by decide, show IntKind.i64.wrap (6 * IntKind.i64.wrap (2 - 1)) = 6 by decide, s6, tM _ (by show ((r / 64 : Nat) : Int) ≤ 255; omega)]
 exact JU _ (by omega)
theorem sj (r : Nat) (h : r < 65536) : iX .u8 (jl .u8 240 (IntKind.i64.wrap (4 - 3))) (IntKind.u8.wrap (jP .i32 r (IntKind.i64.wrap (6 * IntKind.i64.wrap (3 - 1))))) = ((224 + r / 4096 : Nat) : Int) := by
 rw [show jl .u8 240 (IntKind.i64.wrap (4 - 3)) = 224 by decide, show IntKind.i64.wrap (6 * IntKind.i64.wrap (3 - 1)) = 12 by decide, s12, tM _ (by show ((r / 4096 : Nat) : Int) ≤ 255; omega)]
 exact JV _ (by omega)
theorem sk (r : Nat) (h : r < 1114112) : iX .u8 (jl .u8 240 (IntKind.i64.wrap (4 - 4))) (IntKind.u8.wrap (jP .i32 r (IntKind.i64.wrap (6 * IntKind.i64.wrap (4 - 1))))) = ((240 + r / 262144 : Nat) : Int) := by
 rw [show jl .u8 240 (IntKind.i64.wrap (4 - 4)) = 240 by decide, show IntKind.i64.wrap (6 * IntKind.i64.wrap (4 - 1)) = 18 by decide, s18, tM _ (by show ((r / 262144 : Nat) : Int) ≤ 255; omega)]
 exact JW _ (by omega)
theorem rB (x : Int) (h : 0 ≤ x ∧ x ≤ 255) (s : List UInt8) : bl (byte x :: s) = V.int .u8 x :: bl s := by simp only [bl, bv, db h]
theorem Hf (l : List V) (r : Nat) (hu : cK r = true) (hn : gR r = 1) (hl : l.length ≤ 3000000000) : OK 132 [.buf 0, .int .i32 r] [.buf 1 0 l] (.buf 0) (some [.buf 1 0 (l ++ bl (ba r))]) := by
 refine au (C := cx [(144, nj), (145, oW r 1)]) (aq ⟨qb, rZ r 1, trivial⟩) (fn := Tryz.f132) rfl rfl rfl rfl fun hw hs => ?_
 repeat' ((conv => whnf); first | apply ak | apply aW | (apply al <;> intro h))
 all_goals try conv => whnf
 all_goals try (refine a9.mk ?_; try dsimp only)
 all_goals first | refine stay ?_ | trivial | (simp (discharger := omega) only [wR]; omega) | (simp (discharger := omega) [-List.getD_eq_getElem?_getD, wR] <;> omega) | skip
 . have hb := (gQ _).1 hu
   have hr : (1 = 1 ∧ r < 128) ∨ (1 = 2 ∧ 128 ≤ r ∧ r < 2048) ∨ (1 = 3 ∧ 2048 ≤ r ∧ r < 65536) ∨ (1 = 4 ∧ 65536 ≤ r ∧ r < 1114112) := by
    unfold gR at hn
    repeat' split at hn
    all_goals omega
   refine a8.mk [.swap 0 1] ?_ <;> (repeat' first | trivial | apply ae | apply br)
   rw [copy_eq]
   try rw [si r (by omega)]
   try rw [sj r (by omega)]
   try rw [sk r (by omega)]
   try simp only [s6, s12, a63]
   unfold ba
   repeat (first | rw [if_pos (by omega)] | rw [if_neg (by omega)])
   repeat rw [rB _ (by omega)]
   try simp only [List.append_assoc, List.cons_append, List.nil_append]
   repeat' (first | rfl | refine congrArg (l ++ ·) ?_ | refine pI ?_ ?_ | refine congrArg (V.int .u8) ?_)
   all_goals (simp (discharger := omega) only [wR]; omega)
 . exact absurd ((gQ _).1 hu) (by assumption)
theorem Hg (l : List V) (r : Nat) (hu : cK r = true) (hn : gR r = 2) (hl : l.length ≤ 3000000000) : OK 132 [.buf 0, .int .i32 r] [.buf 1 0 l] (.buf 0) (some [.buf 1 0 (l ++ bl (ba r))]) := by
 refine au (C := cx [(144, nj), (145, oW r 2)]) (aq ⟨qb, rZ r 2, trivial⟩) (fn := Tryz.f132) rfl rfl rfl rfl fun hw hs => ?_
 repeat' ((conv => whnf); first | apply ak | apply aW | (apply al <;> intro h))
 all_goals try conv => whnf
 all_goals try (refine a9.mk ?_; try dsimp only)
 all_goals first | refine stay ?_ | trivial | (simp (discharger := omega) only [wR]; omega) | (simp (discharger := omega) [-List.getD_eq_getElem?_getD, wR] <;> omega) | skip
 . have hb := (gQ _).1 hu
   have hr : (2 = 1 ∧ r < 128) ∨ (2 = 2 ∧ 128 ≤ r ∧ r < 2048) ∨ (2 = 3 ∧ 2048 ≤ r ∧ r < 65536) ∨ (2 = 4 ∧ 65536 ≤ r ∧ r < 1114112) := by
    unfold gR at hn
    repeat' split at hn
    all_goals omega
   refine a8.mk [.swap 0 1] ?_ <;> (repeat' first | trivial | apply ae | apply br)
   rw [copy_eq]
   try rw [si r (by omega)]
   try rw [sj r (by omega)]
   try rw [sk r (by omega)]
   try simp only [s6, s12, a63]
   unfold ba
   repeat (first | rw [if_pos (by omega)] | rw [if_neg (by omega)])
   repeat rw [rB _ (by omega)]
   try simp only [List.append_assoc, List.cons_append, List.nil_append]
   repeat' (first | rfl | refine congrArg (l ++ ·) ?_ | refine pI ?_ ?_ | refine congrArg (V.int .u8) ?_)
   all_goals omega
 . exact absurd ((gQ _).1 hu) (by assumption)
theorem Hh (l : List V) (r : Nat) (hu : cK r = true) (hn : gR r = 3) (hl : l.length ≤ 3000000000) : OK 132 [.buf 0, .int .i32 r] [.buf 1 0 l] (.buf 0) (some [.buf 1 0 (l ++ bl (ba r))]) := by
 refine au (C := cx [(144, nj), (145, oW r 3)]) (aq ⟨qb, rZ r 3, trivial⟩) (fn := Tryz.f132) rfl rfl rfl rfl fun hw hs => ?_
 repeat' ((conv => whnf); first | apply ak | apply aW | (apply al <;> intro h))
 all_goals try conv => whnf
 all_goals try (refine a9.mk ?_; try dsimp only)
 all_goals first | refine stay ?_ | trivial | (simp (discharger := omega) only [wR]; omega) | (simp (discharger := omega) [-List.getD_eq_getElem?_getD, wR] <;> omega) | skip
 . have hb := (gQ _).1 hu
   have hr : (3 = 1 ∧ r < 128) ∨ (3 = 2 ∧ 128 ≤ r ∧ r < 2048) ∨ (3 = 3 ∧ 2048 ≤ r ∧ r < 65536) ∨ (3 = 4 ∧ 65536 ≤ r ∧ r < 1114112) := by
    unfold gR at hn
    repeat' split at hn
    all_goals omega
   refine a8.mk [.swap 0 1] ?_ <;> (repeat' first | trivial | apply ae | apply br)
   rw [copy_eq]
   try rw [si r (by omega)]
   try rw [sj r (by omega)]
   try rw [sk r (by omega)]
   try simp only [s6, s12, a63]
   unfold ba
   repeat (first | rw [if_pos (by omega)] | rw [if_neg (by omega)])
   repeat rw [rB _ (by omega)]
   try simp only [List.append_assoc, List.cons_append, List.nil_append]
   repeat' (first | rfl | refine congrArg (l ++ ·) ?_ | refine pI ?_ ?_ | refine congrArg (V.int .u8) ?_)
   all_goals omega
 . exact absurd ((gQ _).1 hu) (by assumption)
theorem Hi (l : List V) (r : Nat) (hu : cK r = true) (hn : gR r = 4) (hl : l.length ≤ 3000000000) : OK 132 [.buf 0, .int .i32 r] [.buf 1 0 l] (.buf 0) (some [.buf 1 0 (l ++ bl (ba r))]) := by
 refine au (C := cx [(144, nj), (145, oW r 4)]) (aq ⟨qb, rZ r 4, trivial⟩) (fn := Tryz.f132) rfl rfl rfl rfl fun hw hs => ?_
 repeat' ((conv => whnf); first | apply ak | apply aW | (apply al <;> intro h))
 all_goals try conv => whnf
 all_goals try (refine a9.mk ?_; try dsimp only)
 all_goals first | refine stay ?_ | trivial | (simp (discharger := omega) only [wR]; omega) | (simp (discharger := omega) [-List.getD_eq_getElem?_getD, wR] <;> omega) | skip
 . have hb := (gQ _).1 hu
   have hr : (4 = 1 ∧ r < 128) ∨ (4 = 2 ∧ 128 ≤ r ∧ r < 2048) ∨ (4 = 3 ∧ 2048 ≤ r ∧ r < 65536) ∨ (4 = 4 ∧ 65536 ≤ r ∧ r < 1114112) := by
    unfold gR at hn
    repeat' split at hn
    all_goals omega
   refine a8.mk [.swap 0 1] ?_ <;> (repeat' first | trivial | apply ae | apply br)
   rw [copy_eq]
   try rw [si r (by omega)]
   try rw [sj r (by omega)]
   try rw [sk r (by omega)]
   try simp only [s6, s12, a63]
   unfold ba
   repeat (first | rw [if_pos (by omega)] | rw [if_neg (by omega)])
   repeat rw [rB _ (by omega)]
   try simp only [List.append_assoc, List.cons_append, List.nil_append]
   repeat' (first | rfl | refine congrArg (l ++ ·) ?_ | refine pI ?_ ?_ | refine congrArg (V.int .u8) ?_)
   all_goals omega
 . exact absurd ((gQ _).1 hu) (by assumption)
theorem Hj (l : List V) (r : Int) (hp : cK r = true ∧ l.length ≤ 3000000000) : OK 132 ([.buf 0, .int .i32 r]) ([.buf 1 0 l]) (.buf 0) (some [.buf 1 0 (l ++ bl (ba r))]) := by
 obtain ⟨hu, hl⟩ := hp
 obtain ⟨n, rfl⟩ := Int.eq_ofNat_of_zero_le ((gQ _).1 hu).1
 have : gR n = 1 ∨ gR n = 2 ∨ gR n = 3 ∨ gR n = 4 := by
  unfold gR; repeat' split
  all_goals simp
 rcases this with h | h | h | h
 . exact Hf l n hu h hl
 . exact Hg l n hu h hl
 . exact Hh l n hu h hl
 . exact Hi l n hu h hl
def xS : Sm := fun args σ => match args, σ with
 | [.buf 0, .int .i32 r], [.buf 1 0 l] => some (cK r = true ∧ l.length ≤ 3000000000, .buf 0, some [.buf 1 0 (l ++ bl (ba r))])
 | _, _ => none
theorem J1 : aw 132 xS := by
 intro args sg pre x r he hp
 unfold xS at he
 split at he <;> cases he
 . exact Hj (hp := hp) ..
end Go.Proofs.YtllncocibkgjkaaGreat
namespace Go.Proofs.YtllncocibkgjkaaGreat
open Go Go.VG
set_option maxRecDepth 100000
def fC (b : UInt8) : Bool := decide ((48 ≤ b.toNat ∧ b.toNat ≤ 57) ∨ (97 ≤ b.toNat ∧ b.toNat ≤ 102))
def fv (b : UInt8) : Nat := if 48 ≤ b.toNat ∧ b.toNat ≤ 57 then b.toNat - 48 else if 97 ≤ b.toNat ∧ b.toNat ≤ 102 then b.toNat - 87 else 0
def dh (b : UInt8) : UInt8 := if 65 ≤ b.toNat ∧ b.toNat ≤ 70 then byte (b.toNat + 32) else b
def Cu.fk (c : Cu) : Cu := if fC (dh c.ai) = true then c.byte else c.byte.fail 6
def Cu.jO (c : Cu) : Nat := fv (dh c.ai)
def dI : Nat → Cu → Int → Cu × Int
 | 0, c, u => (c, u)
 | k + 1, c, u => if c.fk.c ≠ 0 then (c.fk, 0) else dI k c.fk (16 * u + c.jO)
termination_by k => k
def Cu.four (c : Cu) : Cu × Int := dI 4 c 0
def Cu.cD (c : Cu) (b : UInt8) : Cu := if c.ai.toNat = b.toNat then c.byte else c.byte.fail 6
def Cu.number (c : Cu) : Cu × Int :=
 if c.four.2 < 55296 ∨ 57344 ≤ c.four.2 then c.four
 else if 56320 ≤ c.four.2 then (c.four.1.fail 6, 0)
 else if ((c.four.1.cD 92).cD 117).four.2 < 56320 ∨ 57344 ≤ ((c.four.1.cD 92).cD 117).four.2 then (((c.four.1.cD 92).cD 117).four.1.fail 6, 0)
 else (((c.four.1.cD 92).cD 117).four.1, 65536 + (c.four.2 - 55296) * 1024 + (((c.four.1.cD 92).cD 117).four.2 - 56320))
def eO (b : UInt8) : Bool := decide (b.toNat = 34 ∨ b.toNat = 92 ∨ b.toNat = 47 ∨ b.toNat = 98 ∨ b.toNat = 102 ∨ b.toNat = 110 ∨ b.toNat = 114 ∨ b.toNat = 116)
def lZ (b : UInt8) : Nat := if b.toNat = 34 ∨ b.toNat = 92 ∨ b.toNat = 47 then b.toNat else if b.toNat = 98 then 8 else if b.toNat = 102 then 12 else if b.toNat = 110 then 10 else if b.toNat = 114 then 13 else if b.toNat = 116 then 9 else 0
def Cu.dG (c : Cu) : Cu := if c.ai.toNat = 117 then c.byte.number.1 else if eO c.ai = true then c.byte else c.byte.fail 6
def Cu.g8 (c : Cu) : List UInt8 := if c.ai.toNat = 117 then (if c.byte.number.1.c = 0 then ba c.byte.number.2 else []) else if eO c.ai = true then [Go.VG.byte (lZ c.ai)] else []
def cE (b : UInt8) : Nat := if b.toNat < 192 then 0 else if b.toNat < 224 then 1 else if b.toNat < 240 then 2 else 3
def cV : Nat → Cu → List UInt8 → Cu × List UInt8
 | 0, c, s => (c, s)
 | k + 1, c, s => if c.c = 0 ∧ c.p < c.e ∧ cont c.ai = true then cV k c.byte (s ++ [c.ai]) else (c, s)
termination_by k => k
def Cu.eP (c : Cu) (b : UInt8) : Cu := if 0 ≤ kf (cV (cE b) c [b]).2 then (cV (cE b) c [b]).1.fail 5 else (cV (cE b) c [b]).1
def Cu.gK (c : Cu) (b : UInt8) : List UInt8 := if 0 ≤ kf (cV (cE b) c [b]).2 then [] else (cV (cE b) c [b]).2
theorem eu {c : Cu} (h : c.ok) : c.byte.ok := (jZ h 1).1
theorem uZ {c : Cu} (h : c.ok) : c.fk.ok := by
 unfold Cu.fk; split
 . exact eu h
 . exact (fh (eu h) 6).1
theorem zW : ∀ (k : Nat) (c : Cu) (u : Int), c.ok → (dI k c u).1.ok
 | 0, _, _, h => by rw [dI]; exact h
 | k + 1, c, u, h => by
   rw [dI]; split
   . exact uZ h
   . exact zW k _ _ (uZ h)
theorem oK (b : UInt8) : fv b < 16 := by        unfold fv; repeat' split
                                                all_goals omega
theorem zV : ∀ (k : Nat) (c : Cu) (u : Int) (m : Nat), 0 ≤ u → u < m → 0 < m → 0 ≤ (dI k c u).2 ∧ (dI k c u).2 < ((m * 16 ^ k : Nat) : Int)
 | 0, _, _, _, h1, h, _ => by rw [dI]; simpa using ⟨h1, h⟩
 | k + 1, c, u, m, h1, h, h0 => by
   have hp : 0 < 16 ^ k := Nat.pow_pos (by decide)
   rw [dI]; split
   . have : 0 < m * 16 ^ (k + 1) := Nat.mul_pos h0 (Nat.pow_pos (by decide))
     simp only; omega
   . have hv := oK (dh c.ai)
     have := zV k c.fk (16 * u + c.jO) (16 * m) (by omega) (by unfold Cu.jO; omega) (by omega)
     rw [Nat.pow_succ, ← Nat.mul_assoc, Nat.mul_right_comm, Nat.mul_comm m 16]; exact this
theorem rV {c : Cu} (h : c.ok) : c.four.1.ok := zW 4 c 0 h
theorem rU (c : Cu) : 0 ≤ c.four.2 ∧ c.four.2 < 65536 := by have := zV 4 c 0 1 (by decide) (by decide) (by decide); simpa [Cu.four] using this
theorem oI {c : Cu} (h : c.ok) (b : UInt8) : (c.cD b).ok := by
 unfold Cu.cD; split
 . exact eu h
 . exact (fh (eu h) 6).1
theorem BI {c : Cu} (h : c.ok) : c.number.1.ok := by
 have h1 := rV h
 have h2 := rV (oI (oI h1 92) 117)
 unfold Cu.number
 repeat' split
 . exact h1
 . exact (fh h1 6).1
 . exact (fh h2 6).1
 . exact h2
theorem JP {c : Cu} (h : c.number.1.c = 0) : cK c.number.2 = true := by
 have h1 := rU c
 have h2 := rU ((c.four.1.cD 92).cD 117)
 rw [gQ]
 have hf : ∀ x : Cu, (x.fail 6).c ≠ 0 := fun x => by
  unfold Cu.fail; split
  . simp
  . assumption
 unfold Cu.number at h ⊢
 repeat' split at h
 . rename_i q; rw [if_pos q]; omega
 . exact absurd h (hf _)
 . exact absurd h (hf _)
 . rename_i q1 q2 q3
   rw [if_neg q1, if_neg q2, if_neg q3]
   simp only; omega
theorem mH {c : Cu} (h : c.ok) : c.dG.ok := by
 unfold Cu.dG; repeat' split
 . exact BI (eu h)
 . exact eu h
 . exact (fh (eu h) 6).1
theorem C7 : ∀ (k : Nat) (c : Cu) (s : List UInt8), c.ok → (cV k c s).1.ok
 | 0, _, _, h => by rw [cV]; exact h
 | k + 1, c, s, h => by
   rw [cV]; split
   . exact C7 k _ _ (eu h)
   . exact h
theorem C6 : ∀ (k : Nat) (c : Cu) (s : List UInt8), (cV k c s).2.length ≤ s.length + k
 | 0, _, _ => by simp [cV]
 | k + 1, c, s => by
   rw [cV]; split
   . have := C6 k c.byte (s ++ [c.ai]); simp at this; omega
   . simp only; omega
theorem CP (b : UInt8) : cE b ≤ 3 := by
 unfold cE; repeat' split
 all_goals omega
theorem nb {c : Cu} (h : c.ok) (b : UInt8) : (c.eP b).ok := by
 have := C7 (cE b) c [b] h
 unfold Cu.eP; split
 . exact (fh this 5).1
 . exact this
end Go.Proofs.YtllncocibkgjkaaGreat
namespace Go.Proofs.YtllncocibkgjkaaGreat
open Go Go.VG
set_option maxRecDepth 100000
theorem JH : ∀ i, i < 16 → fv (iW.getD i 0) = i ∧ fC (iW.getD i 0) = true ∧ (iW.getD i 0).toNat < 128 := by decide
theorem JJ : ∀ n, n < 256 → fC (.ofNat n) = true → iW.getD (fv (.ofNat n)) 0 = .ofNat n := by decide
theorem JI {b : UInt8} (h : fC b = true) : iW.getD (fv b) 0 = b := by
 have := JJ b.toNat b.toNat_lt
 rw [UInt8.ofNat_toNat] at this
 exact this h
theorem JK {b : UInt8} (h : fC b = false) : fv b = 0 := by
 unfold fC at h
 rw [decide_eq_false_iff_not] at h
 unfold fv
 rw [if_neg (by omega), if_neg (by omega)]
theorem Gb (b : UInt8) (hp : True) : OK 151 ([bv b]) ([]) (.tuple [.int .i64 (fv b), .bool (fC b)]) (none) := by
 refine au (C := cx []) (aq trivial) (fn := Tryz.f151) rfl rfl rfl rfl fun hw hs => ?_
 have hb : b.toNat < 256 := b.toNat_lt
 all_goals try conv => whnf
 all_goals try (refine a9.mk ?_; try dsimp only)
 all_goals (try simp only [aK] at *)
 all_goals try refine stay ?_
 refine aU.mk Nat (fun i => i ≤ 16 ∧ ∀ j, j < i → iW.getD j 0 ≠ b) (fun i => ⟨16, [(0, .int .u8 b.toNat), (6, .ptr 0 0)], [.siter iW i], []⟩) (fun i => 16 - i) [] 0 ⟨by omega, by simp⟩ ?_ (fun i ⟨hi, hj⟩ _ _ => ?_)
 . refine Go.VG.Sub.mk rfl ?_ ?_ ?_ ?_ <;> (repeat' first | trivial)
 have hl : iW.length = 16 := rfl
 have hd : i < 16 → iW[i]? = some (iW.getD i 0) := fun h => by
  rw [List.getD_eq_getElem?_getD, List.getElem?_eq_getElem (by rw [hl]; exact h)]; rfl
 have hn := JH i
 repeat' ((conv => whnf); (apply al <;> intro h))
 all_goals try conv => whnf
 all_goals try (refine a9.mk ?_; try dsimp only)
 all_goals (try simp only [aK] at *)
 all_goals try refine stay ?_
 . rw [hd (by omega)]
   have hn := hn (by omega)
   generalize hx : iW.getD i 0 = x at *
   have hwb : IntKind.i32.wrap (b.toNat : Int) = b.toNat := by (simp (discharger := omega) only [wR]; omega)
   repeat' ((conv => whnf); first | apply ak | (apply al <;> intro h))
   all_goals try conv => whnf
   all_goals try (refine a9.mk ?_; try dsimp only)
   all_goals (try rw [hwb] at *)
   all_goals (try simp only [aK] at *)
   all_goals first | refine stay ?_ | omega | skip
   . have : x = b := UInt8.toNat_inj.1 (by omega)
     subst this
     refine a8.mk [] ?_ <;> (repeat' first | trivial | apply ae | apply aI | apply jF | apply hP | apply bU)
     . rw [hn.1]
     . rw [hn.2.1]
   . refine ⟨[], i + 1, ⟨by omega, fun j hjj => ?_⟩, ?_, by omega⟩
     . by_cases e : j = i
       . subst e; rw [hx]; intro e; subst e; omega
       . exact hj j (by omega)
     . refine Go.VG.Sub.mk rfl ?_ ?_ ?_ ?_ <;> (repeat' first | trivial)
 . have hf : fC b = false := by
     cases h : fC b with
     | false => rfl
     | true =>
       exfalso
       refine hj (fv b) ?_ (JI h)
       have := oK b; omega
   refine a8.mk [] ?_ <;> (repeat' first | trivial | apply ae | apply aI | apply jF | apply hP | apply bU)
   . rw [JK hf]; rfl
   . rw [hf]
def xk : Sm := fun args σ => match args, σ with
 | [.int .u8 n_b], [] => some ((0 ≤ n_b ∧ n_b ≤ 255) ∧ (True), .tuple [.int .i64 (fv (byte n_b)), .bool (fC (byte n_b))], none)
 | _, _ => none
theorem Iq : aw 151 xk := by
 intro args sg pre x r he hp
 unfold xk at he
 split at he <;> cases he
 . rw [eD (hp).1]; exact Gb (hp := hp.2) ..
theorem FU (c : Cu) (o : List V) (hp : c.ok) : OK 148 ([.ptr 0 0]) ([.cells [.ptr 1 0, .buf 2], .cells (eC c), .buf 1 0 o]) (.int .i32 c.jO) (some [.cells [.ptr 1 0, .buf 2], .cells (eC c.fk), .buf 1 0 o]) := by
 refine au (C := cx [(98, j7), (151, xk), (104, jt)]) (aq ⟨jQ, Iq, kC, trivial⟩) (fn := Tryz.f148) rfl rfl rfl rfl fun hw hs => ?_
 have hb : c.ai.toNat < 256 := c.ai.toNat_lt
 have e1 : 65 ≤ c.ai.toNat ∧ c.ai.toNat ≤ 70 → byte (IntKind.u8.wrap (c.ai.toNat + 32)) = dh c.ai := fun h => by
  unfold dh; rw [if_pos h, kW, show ((c.ai.toNat : Int) + 32) % 256 = c.ai.toNat + 32 by omega]
 have e2 : ¬ (65 ≤ c.ai.toNat ∧ c.ai.toNat ≤ 70) → byte c.ai.toNat = dh c.ai := fun h => by
  unfold dh; rw [if_neg h, cg]
 have hv := oK (dh c.ai)
 repeat' ((conv => whnf); first | apply ak | apply aW | (apply al <;> intro h))
 all_goals try conv => whnf
 all_goals try (refine a9.mk ?_; try dsimp only)
 all_goals (try simp only [aK] at *)
 all_goals first | refine stay ?_ | trivial | (simp (discharger := omega) [-List.getD_eq_getElem?_getD, wR] <;> omega) | skip
 all_goals first
  | exact ⟨by omega, trivial⟩
  | (first | rw [e1 (by omega)] at * | rw [e2 (by omega)] at *)
 all_goals
  first
  | have hn : fC (dh c.ai) = true := decide_eq_true (by assumption)
  | have hn : fC (dh c.ai) = false := decide_eq_false (by assumption)
  unfold Cu.fk Cu.jO
  rw [hn]
  first | rw [if_pos rfl] | rw [if_neg Bool.false_ne_true]
  refine a8.mk [] ?_ <;> (repeat' first | trivial | apply ae | apply aI)
 all_goals (simp (discharger := omega) only [wR]; omega)
def x7 : Sm := fun args σ => match args, σ with
 | [.ptr 0 0], [.cells [.ptr 1 0, .buf 2], .cells ([.str s_c, .int .i64 (.ofNat a_c), .int .i64 (.ofNat e_c), .int .i64 c_c]), .buf 1 0 o] => some (True ∧ ((Cu.mk s_c a_c e_c c_c).ok), .int .i32 (Cu.mk s_c a_c e_c c_c).jO, some [.cells [.ptr 1 0, .buf 2], .cells (eC (Cu.mk s_c a_c e_c c_c).fk), .buf 1 0 o])
 | _, _ => none
theorem I9 : aw 148 x7 := by
 intro args sg pre x r he hp
 unfold x7 at he
 split at he <;> cases he
 . rw [c7 (hp).1]; exact FU (hp := hp.2) ..
theorem JX (a b : Nat) (ha : a < 65536) (hb : b < 16) : iX .i32 (jl .i32 a 4) b = ((16 * a + b : Nat) : Int) := by
 have e : jl .i32 (a : Int) 4 = ((a * 2 ^ 4 : Nat) : Int) := by
  show IntKind.i32.wrap ((a : Int) * 2 ^ (min 4 32)) = _
  rw [kh, show ((2 : Int) ^ (min 4 32)) = 16 from rfl]; omega
 rw [e]
 show IntKind.i32.wrap ((BitVec.ofInt 32 ((a * 2 ^ 4 : Nat) : Int) ||| BitVec.ofInt 32 (b : Int)).toNat : Int) = _
 rw [BitVec.ofInt_natCast, BitVec.ofInt_natCast, BitVec.toNat_or, BitVec.toNat_ofNat, BitVec.toNat_ofNat, Nat.mod_eq_of_lt (by omega), Nat.mod_eq_of_lt (by omega), vM a b 4 hb]
 rw [kh]; omega
theorem FT (c : Cu) (o : List V) (hp : c.ok) : OK 142 ([.ptr 0 0]) ([.cells [.ptr 1 0, .buf 2], .cells (eC c), .buf 1 0 o]) (.int .i32 c.four.2) (some [.cells [.ptr 1 0, .buf 2], .cells (eC c.four.1), .buf 1 0 o]) := by
 refine au (C := cx [(148, x7), (73, j8)]) (aq ⟨I9, jR, trivial⟩) (fn := Tryz.f142) rfl rfl rfl rfl fun hw hs => ?_
 refine aU.mk (Nat × Cu × Nat) (fun | (k, d, u) => k ≤ 4 ∧ d.ok ∧ u < 16 ^ k ∧ dI (4 - k) d (u : Int) = dI 4 c 0)
  (fun | (k, d, u) => ⟨19, [(0, .ptr 0 0), (3, .int .i32 u), (4, .int .i64 k)], [.cells [.ptr 1 0, .buf 2], .cells (eC d), .buf 1 0 o], [2]⟩) (fun x => 4 - x.1) [] (0, c, 0) ⟨by omega, hp, by decide, rfl⟩ ?_ (fun ⟨k, d, u⟩ ⟨hk, hd, hu, he⟩ _ _ => ?_)
 . refine Go.VG.Sub.mk rfl ?_ ?_ ?_ ?_ <;> (repeat' first | trivial)
 have hv := oK (dh d.ai)
 have h16 : k < 4 → u < 4096 := fun h => by
  have : (16 : Nat) ^ k ≤ 16 ^ 3 := Nat.pow_le_pow_right (by decide) (by omega)
  omega
 repeat' ((conv => whnf); first | apply ak | apply aW | (apply al <;> intro h))
 all_goals try conv => whnf
 all_goals try (refine a9.mk ?_; try dsimp only)
 all_goals (try simp only [aK] at *)
 all_goals first | refine stay ?_ | trivial | skip
 . rw [show 4 - k = (4 - k - 1) + 1 by omega, dI, if_neg (by omega)] at he
   have hu' := h16 (by omega)
   refine ⟨[], (k + 1, d.fk, 16 * u + d.jO), ⟨by omega, uZ hd, ?_, ?_⟩, ?_, by omega⟩
   . unfold Cu.jO
     show 16 * u + fv (dh d.ai) < 16 ^ k * 16
     omega
   . rw [show 4 - (k + 1) = 4 - k - 1 by omega]; exact he
   . refine Go.VG.Sub.mk rfl ?_ ?_ ?_ ?_ <;> (repeat' first | trivial | apply ae | apply aI)
     . exact JX _ _ (by omega) hv
     . (simp (discharger := omega) only [wR]; omega)
 . rw [show 4 - k = (4 - k - 1) + 1 by omega, dI, if_pos (by omega)] at he
   unfold Cu.four
   rw [← he]
   refine a8.mk [] ?_ <;> (repeat' first | trivial)
 . rw [show 4 - k = 0 by omega, dI] at he
   unfold Cu.four
   rw [← he]
   refine a8.mk [] ?_ <;> (repeat' first | trivial)
def wZ : Sm := fun args σ => match args, σ with
 | [.ptr 0 0], [.cells [.ptr 1 0, .buf 2], .cells ([.str s_c, .int .i64 (.ofNat a_c), .int .i64 (.ofNat e_c), .int .i64 c_c]), .buf 1 0 o] => some (True ∧ ((Cu.mk s_c a_c e_c c_c).ok), .int .i32 (Cu.mk s_c a_c e_c c_c).four.2, some [.cells [.ptr 1 0, .buf 2], .cells (eC (Cu.mk s_c a_c e_c c_c).four.1), .buf 1 0 o])
 | _, _ => none
theorem I8 : aw 142 wZ := by
 intro args sg pre x r he hp
 unfold wZ at he
 split at he <;> cases he
 . rw [c7 (hp).1]; exact FT (hp := hp.2) ..
theorem FV (c : Cu) (o : List V) (b : UInt8) (hp : c.ok) : OK 143 ([.ptr 0 0, bv b]) ([.cells [.ptr 1 0, .buf 2], .cells (eC c), .buf 1 0 o]) (.tuple []) (some [.cells [.ptr 1 0, .buf 2], .cells (eC (c.cD b)), .buf 1 0 o]) := by
 refine au (C := cx [(98, j7), (104, jt)]) (aq ⟨jQ, kC, trivial⟩) (fn := Tryz.f143) rfl rfl rfl rfl fun hw hs => ?_
 repeat' ((conv => whnf); first | apply ak | apply aW | (apply al <;> intro h))
 all_goals try conv => whnf
 all_goals try (refine a9.mk ?_; try dsimp only)
 all_goals (try simp only [aK] at *)
 all_goals first | refine stay ?_ | trivial | skip
 all_goals
  unfold Cu.cD
  first | rw [if_pos (by omega)] | rw [if_neg (by omega)]
  refine a8.mk [] ?_ <;> (repeat' first | trivial)
def x8 : Sm := fun args σ => match args, σ with
 | [.ptr 0 0, .int .u8 n_b], [.cells [.ptr 1 0, .buf 2], .cells ([.str s_c, .int .i64 (.ofNat a_c), .int .i64 (.ofNat e_c), .int .i64 c_c]), .buf 1 0 o] => some ((0 ≤ n_b ∧ n_b ≤ 255) ∧ (True ∧ ((Cu.mk s_c a_c e_c c_c).ok)), .tuple [], some [.cells [.ptr 1 0, .buf 2], .cells (eC ((Cu.mk s_c a_c e_c c_c).cD (byte n_b))), .buf 1 0 o])
 | _, _ => none
theorem Ia : aw 143 x8 := by
 intro args sg pre x r he hp
 unfold x8 at he
 split at he <;> cases he
 . rw [eD (hp).1]; rw [c7 (hp.2).1]; exact FV (hp := hp.2.2) ..
theorem FX (b : UInt8) (hp : True) : OK 133 ([bv b]) ([]) (.tuple [.int .i32 (lZ b), .bool (eO b)]) (none) := by
 refine au (C := cx []) (aq trivial) (fn := Tryz.f133) rfl rfl rfl rfl fun hw hs => ?_
 have hb : b.toNat < 256 := b.toNat_lt
 repeat' ((conv => whnf); (apply al <;> intro h))
 all_goals try conv => whnf
 all_goals try (refine a9.mk ?_; try dsimp only)
 all_goals try refine stay ?_
 all_goals
  unfold eO lZ
  first | rw [decide_eq_true (by omega)] | rw [decide_eq_false (by omega)]
  repeat (first | rw [if_pos (by omega)] | rw [if_neg (by omega)])
  refine a8.mk [] ?_ <;> (repeat' first | trivial | apply ae | apply aI | apply hP | apply bU)
 all_goals (simp (discharger := omega) only [wR]; omega)
def xa : Sm := fun args σ => match args, σ with
 | [.int .u8 n_b], [] => some ((0 ≤ n_b ∧ n_b ≤ 255) ∧ (True), .tuple [.int .i32 (lZ (byte n_b)), .bool (eO (byte n_b))], none)
 | _, _ => none
theorem Ic : aw 133 xa := by
 intro args sg pre x r he hp
 unfold xa at he
 split at he <;> cases he
 . rw [eD (hp).1]; exact FX (hp := hp.2) ..
theorem G0 (b : UInt8) (hp : True) : OK 134 ([bv b]) ([]) (.int .i64 (cE b)) (none) := by
 refine au (C := cx []) (aq trivial) (fn := Tryz.f134) rfl rfl rfl rfl fun hw hs => ?_
 repeat' ((conv => whnf); (apply al <;> intro h))
 all_goals try conv => whnf
 all_goals try (refine a9.mk ?_; try dsimp only)
 all_goals try refine stay ?_
 all_goals
  unfold cE
  repeat (first | rw [if_pos (by omega)] | rw [if_neg (by omega)])
  refine a8.mk [] ?_ <;> (repeat' first | trivial)
def xd : Sm := fun args σ => match args, σ with
 | [.int .u8 n_b], [] => some ((0 ≤ n_b ∧ n_b ≤ 255) ∧ (True), .int .i64 (cE (byte n_b)), none)
 | _, _ => none
theorem Ih : aw 134 xd := by
 intro args sg pre x r he hp
 unfold xd at he
 split at he <;> cases he
 . rw [eD (hp).1]; exact G0 (hp := hp.2) ..
theorem shl10 (a : Int) : jl .i32 a 10 = IntKind.i32.wrap (a * 1024) := rfl
theorem FW (c : Cu) (o : List V) (hp : c.ok) : OK 131 ([.ptr 0 0]) ([.cells [.ptr 1 0, .buf 2], .cells (eC c), .buf 1 0 o]) (.int .i32 c.number.2) (some [.cells [.ptr 1 0, .buf 2], .cells (eC c.number.1), .buf 1 0 o]) := by
 refine au (C := cx [(142, wZ), (143, x8), (104, jt)]) (aq ⟨I8, Ia, kC, trivial⟩) (fn := Tryz.f131) rfl rfl rfl rfl fun hw hs => ?_
 have h1 := rU c
 have h2 := rU ((c.four.1.cD 92).cD 117)
 have k1 := rV hp
 have k2 := oI k1 92
 have k3 := oI k2 117
 repeat' ((conv => whnf); first | apply ak | (apply al <;> intro h))
 all_goals try conv => whnf
 all_goals try (refine a9.mk ?_; try dsimp only)
 all_goals (try simp only [aK] at *)
 all_goals first | refine stay ?_ | trivial | skip
 all_goals (try simp only [show byte 92 = (92 : UInt8) from rfl, show byte 117 = (117 : UInt8) from rfl, shl10] at *)
 all_goals
  unfold Cu.number
  repeat (first | rw [if_pos (by omega)] | rw [if_neg (by omega)])
  refine a8.mk [] ?_ <;> (repeat' first | trivial | apply ae | apply aI)
 simp only [kh]; omega
def x9 : Sm := fun args σ => match args, σ with
 | [.ptr 0 0], [.cells [.ptr 1 0, .buf 2], .cells ([.str s_c, .int .i64 (.ofNat a_c), .int .i64 (.ofNat e_c), .int .i64 c_c]), .buf 1 0 o] => some (True ∧ ((Cu.mk s_c a_c e_c c_c).ok), .int .i32 (Cu.mk s_c a_c e_c c_c).number.2, some [.cells [.ptr 1 0, .buf 2], .cells (eC (Cu.mk s_c a_c e_c c_c).number.1), .buf 1 0 o])
 | _, _ => none
theorem Ib : aw 131 x9 := by
 intro args sg pre x r he hp
 unfold x9 at he
 split at he <;> cases he
 . rw [c7 (hp).1]; exact FW (hp := hp.2) ..
end Go.Proofs.YtllncocibkgjkaaGreat
