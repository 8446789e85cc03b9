/-
  A part of the proof.
-/
import Derived.Test.YtllncocibkgjkaaJNw
import Derived.Test.YtllncocibkgjkaaJNd
set_option linter.unusedSimpArgs false
set_option linter.unusedVariables false
set_option maxHeartbeats 4000000
namespace Go.Proofs.Ytllncocibkgjkaa
open Go Go.VG
set_option maxRecDepth 100000
theorem D0 (c : Cu) (hp : c.ok ∧ c.s.length ≤ 100000000) : OK 47 ([.ptr 0 0]) ([.cells (eC c)]) (.str c.num.2) (some [.cells (eC c.num.1)]) := by
 refine az (C := cxh [(79, uL), (21, iy)] [(2, [.cell 1 1 1])]) (ax ⟨EN, jb, trivial⟩) (fn := Try.f47) rfl rfl rfl rfl fun hw hs => ?_
 obtain ⟨hp, hl⟩ := hp
 repeat' ((conv => whnf); first | apply al | apply bh | (apply ay <;> intro h) | apply kG)
 all_goals try conv => whnf
 all_goals try (refine af.mk ?_; try dsimp only)
 all_goals (try simp only [aO] at *)
 all_goals first | refine stay ?_ | trivial | skip
 . unfold Cu.num
   rw [if_pos (by assumption)]
   refine ah.mk [] ?_ <;> (repeat' first | trivial)
 . unfold Cu.num
   rw [if_neg (by assumption)]
   refine ah.mk [] ?_ <;> (repeat' first | trivial)
def uM : Sm := fun args σ => match args, σ with
 | [.ptr 0 0], [.cells ([.str s_c, .int .i64 (.ofNat a_c), .int .i64 (.ofNat e_c), .int .i64 c_c])] => some (True ∧ ((Cu.mk s_c a_c e_c c_c).ok ∧ (Cu.mk s_c a_c e_c c_c).s.length ≤ 100000000), .str (Cu.mk s_c a_c e_c c_c).num.2, some [.cells (eC (Cu.mk s_c a_c e_c c_c).num.1)])
 | _, _ => none
theorem EO : aI 47 uM := by
 intro args sg pre x r he hp
 unfold uM at he
 split at he <;> cases he
 . rw [bW (hp).1]; exact D0 (hp := hp.2) ..
theorem Bo {c : Cu} (hk : c.ok) (h : c.has) (hb : d6 c.aa = true) : c.byte.bR = c.bR := by
 obtain ⟨b1, b2⟩ := eh h.1 h.2
 have hl := eY hk
 have hp : c.p < c.a8.length := by have := h.2; omega
 rw [b2] at hb
 unfold Cu.bR
 rw [b1, if_pos (show ({ c with p := c.p + 1 } : Cu).c = 0 from h.1), if_pos h.1]
 have e : Cu.a8 { c with p := c.p + 1 } = c.a8 := rfl
 rw [e, A4 hp hb]
theorem we {c : Cu} (hk : c.ok) (h : ¬ c.has ∨ d6 c.aa = false) : c.bR = c := by
 have hl := eY hk
 unfold Cu.bR
 by_cases h0 : c.c = 0
 . rw [if_pos h0]
   have : dr d6 c.a8 c.p = c.p := by
    by_cases hp : c.p < c.e
    . obtain ⟨_, b2⟩ := eh h0 hp
      rcases h with h | h
      . exact absurd ⟨h0, hp⟩ h
      . rw [b2] at h; exact nD (.inr h)
    . exact nD (.inl (by have := hk.1; omega))
   rw [this]
 . rw [if_neg h0]
theorem wg {b : UInt8} : d6 b = true ↔ b.toNat = 32 ∨ b.toNat = 9 ∨ b.toNat = 10 ∨ b.toNat = 13 := by simp [d6]
theorem sv {b : UInt8} : d6 b = false ↔ ¬ (b.toNat = 32 ∨ b.toNat = 9 ∨ b.toNat = 10 ∨ b.toNat = 13) := by rw [← wg, Bool.not_eq_true]
theorem Dc (c : Cu) (hp : c.ok) : OK 42 ([.ptr 0 0]) ([.cells (eC c)]) (.tuple []) (some [.cells (eC c.bR)]) := by
 refine az (C := cx [(43, kW), (44, iw)]) (ax ⟨na, ja, trivial⟩) (fn := Try.f42) rfl rfl rfl rfl fun hw hs => ?_
 refine cg.mk Cu (fun d => d.ok ∧ d.bR = c.bR) (fun d => ⟨29, [(0, .ptr 0 0)], [.cells (eC d)], []⟩) (fun d => d.e - d.p) [] c ⟨hp, rfl⟩ ?_ (fun d ⟨hd, he⟩ _ _ => ?_)
 . refine Go.VG.Sub.mk rfl ?_ ?_ ?_ ?_ <;> (repeat' first | trivial)
 have hb : d.aa.toNat < 256 := d.aa.toNat_lt
 have hbo := jh hd 1
 have hbk : d.byte.ok := hbo.1
 repeat' ((conv => whnf); first | apply al | apply bh | (apply ay <;> intro h))
 all_goals try conv => whnf
 all_goals try (refine af.mk ?_; try dsimp only)
 all_goals (try simp only [aO] at *)
 all_goals first | refine stay ?_ | trivial | skip
 all_goals first
  | (have hh : d.has := by assumption
     have hx := Bo hd hh (wg.2 (by omega))
     have hy := (eh hh.1 hh.2).1
     refine ⟨[], d.byte, ⟨hbk, hx.trans he⟩, ?_, by have := hh.2; rw [hy]; show d.e - (d.p + 1) < d.e - d.p; omega⟩
     refine Go.VG.Sub.mk rfl ?_ ?_ ?_ ?_ <;> (repeat' first | trivial)
     )
  | (have hx := we hd (.inl (by assumption))
     rw [← he, hx]
     refine ah.mk [] ?_ <;> (repeat' first | trivial)
     )
  | (have hx := we hd (.inr (sv.2 (by omega)))
     rw [← he, hx]
     refine ah.mk [] ?_ <;> (repeat' first | trivial)
     )
  | skip
def uW : Sm := fun args σ => match args, σ with
 | [.ptr 0 0], [.cells ([.str s_c, .int .i64 (.ofNat a_c), .int .i64 (.ofNat e_c), .int .i64 c_c])] => some (True ∧ ((Cu.mk s_c a_c e_c c_c).ok), .tuple [], some [.cells (eC (Cu.mk s_c a_c e_c c_c).bR)])
 | _, _ => none
theorem EZ : aI 42 uW := by
 intro args sg pre x r he hp
 unfold uW at he
 split at he <;> cases he
 . rw [bW (hp).1]; exact Dc (hp := hp.2) ..
theorem Df (b : UInt8) (hp : True) : OK 38 ([bv b, .list true 1 [.int .u8 123, .int .u8 125, .int .u8 91, .int .u8 93, .int .u8 58, .int .u8 44]]) ([]) (.bool (dL b)) (none) := by
 refine az (C := cx []) (ax trivial) (fn := Try.f38) rfl rfl rfl rfl fun hw hs => ?_
 have hb : b.toNat < 256 := b.toNat_lt
 have hl : ([123, 125, 91, 93, 58, 44] : List UInt8).length = 6 := rfl
 refine cg.mk Nat (fun i => i ≤ 6 ∧ ∀ j, j < i → ([123, 125, 91, 93, 58, 44] : List UInt8).getD j 0 ≠ b) (fun i => ⟨17, [(0, bv b), (7, .list true 1 (bl [123, 125, 91, 93, 58, 44])), (8, .int .i64 6), (9, .int .i64 i)], [], []⟩) (fun i => 6 - i) [] 0 ⟨by omega, fun j hj => absurd hj (by omega)⟩ ?_ (fun i ⟨hi, hj⟩ _ _ => ?_)
 . refine Go.VG.Sub.mk rfl ?_ ?_ ?_ ?_ <;> (repeat' first | trivial)
 have hx : (([123, 125, 91, 93, 58, 44] : List UInt8).getD i 0).toNat < 256 := UInt8.toNat_lt _
 have hin : ∀ j, j < 6 → dL (([123, 125, 91, 93, 58, 44] : List UInt8).getD j 0) = true := by decide
 have hno : i = 6 → dL b = false := fun e => by
  cases q : dL b with
  | false => rfl
  | true =>
    have h : ∀ n : Nat, n < 256 → dL (.ofNat n) = true → ∃ j, j < 6 ∧ ([123, 125, 91, 93, 58, 44] : List UInt8).getD j 0 = .ofNat n := by decide +kernel
    obtain ⟨j, h1, h2⟩ := h b.toNat hb (by rw [UInt8.ofNat_toNat]; exact q)
    rw [UInt8.ofNat_toNat] at h2
    exact absurd h2 (hj j (by omega))
 repeat' ((conv => whnf); first | apply al | (apply ay <;> intro h) | with_reducible refine goB ?_ fun hc => ?_)
 all_goals try conv => whnf
 all_goals try (refine af.mk ?_; try dsimp only)
 all_goals (try simp only [aO] at *)
 all_goals first | refine stay ?_ | omega | skip
 . have e : ([123, 125, 91, 93, 58, 44] : List UInt8).getD i 0 = b := UInt8.toNat_inj.1 (by omega)
   have := hin i (by omega)
   rw [e] at this
   rw [this]
   refine ah.mk [] ?_ <;> (repeat' first | trivial)
 . refine ⟨[], i + 1, ⟨by omega, fun j hjj => ?_⟩, ?_, by omega⟩
   . by_cases e : j = i
     . subst e; intro e; have := congrArg UInt8.toNat e; omega
     . exact hj j (by omega)
   . refine Go.VG.Sub.mk rfl ?_ ?_ ?_ ?_ <;> (repeat' first | trivial | apply ak | apply cw)
     all_goals (simp (discharger := omega) only [wR]; omega)
 . rw [hno (by omega)]
   refine ah.mk [] ?_ <;> (repeat' first | trivial)
def pA : Sm := fun args σ => match args, σ with
 | [.int .u8 n_b, .list true 1 [.int .u8 123, .int .u8 125, .int .u8 91, .int .u8 93, .int .u8 58, .int .u8 44]], [] => some ((0 ≤ n_b ∧ n_b ≤ 255) ∧ (True), .bool (dL (byte n_b)), none)
 | _, _ => none
theorem tw : aI 38 pA := by
 intro args sg pre x r he hp
 unfold pA at he
 split at he <;> cases he
 . rw [eK (hp).1]; exact Df (hp := hp.2) ..
theorem Di (k : UInt8) (hp : True) : OK 37 ([bv k]) ([]) (.str (spell k)) (none) := by
 refine az (C := cx []) (ax trivial) (fn := Try.f37) rfl rfl rfl rfl fun hw hs => ?_
 have hb : k.toNat < 256 := k.toNat_lt
 repeat' ((conv => whnf); (apply ay <;> intro h))
 all_goals try conv => whnf
 all_goals try (refine af.mk ?_; try dsimp only)
 all_goals (try simp only [aO] at *)
 all_goals try refine stay ?_
 all_goals
  unfold spell
  repeat (first | rw [if_pos (by omega)] | rw [if_neg (by omega)])
  refine ah.mk [] ?_ <;> (repeat' first | trivial)
def pB : Sm := fun args σ => match args, σ with
 | [.int .u8 n_k], [] => some ((0 ≤ n_k ∧ n_k ≤ 255) ∧ (True), .str (spell (byte n_k)), none)
 | _, _ => none
theorem tx : aI 37 pB := by
 intro args sg pre x r he hp
 unfold pB at he
 split at he <;> cases he
 . rw [eK (hp).1]; exact Di (hp := hp.2) ..
abbrev eT (t : Tk) : List V := [.int .u8 t.k.toNat, .str t.t]
theorem Dd (c : Cu) (k : UInt8) (t : List UInt8) (hp : True) : OK 46 ([.ptr 0 0, .agg [bv k, .str t]]) ([.cells (eC c)]) (.agg (eT (if c.c = 0 then ⟨k, t⟩ else .no))) (none) := by
 refine az (C := cx [(21, iy)]) (ax ⟨jb, trivial⟩) (fn := Try.f46) rfl rfl rfl rfl fun hw hs => ?_
 have hb : k.toNat < 256 := k.toNat_lt
 have hbb : byte k.toNat = k := cF _
 repeat' ((conv => whnf); first | apply al | apply bh | (apply ay <;> intro h))
 all_goals try conv => whnf
 all_goals try (refine af.mk ?_; try dsimp only)
 all_goals (try simp only [aO] at *)
 all_goals first | refine stay ?_ | trivial | skip
 all_goals
  first | rw [if_pos (by assumption)] | rw [if_neg (by assumption)]
  refine ah.mk [] ?_ <;> (repeat' first | trivial)
def uX : Sm := fun args σ => match args, σ with
 | [.ptr 0 0, .agg [.int .u8 n_k, .str t]], [.cells ([.str s_c, .int .i64 (.ofNat a_c), .int .i64 (.ofNat e_c), .int .i64 c_c])] => some ((0 ≤ n_k ∧ n_k ≤ 255) ∧ (True ∧ (True)), .agg (eT (if (Cu.mk s_c a_c e_c c_c).c = 0 then ⟨(byte n_k), t⟩ else .no)), none)
 | _, _ => none
theorem F0 : aI 46 uX := by
 intro args sg pre x r he hp
 unfold uX at he
 split at he <;> cases he
 . rw [eK (hp).1]; rw [bW (hp.2).1]; exact Dd (hp := hp.2.2) ..
theorem B3 (b : UInt8) (s : List UInt8) (c : Cu) : c.word (b :: s) = if c.aa ≠ b then (c.byte.fail 3, false) else c.byte.word s := rfl
theorem IA (c : Cu) : c.word [] = (c, true) := rfl
theorem Dj (c : Cu) (k : UInt8) (t : List UInt8) (hp : c.ok ∧ t.length ≤ 100) : OK 48 ([.ptr 0 0, bv k, .str t]) ([.cells (eC c)]) (.agg (eT (if (c.word t).2 = true then ⟨k, []⟩ else .no))) (some [.cells (eC (c.word t).1)]) := by
 refine az (C := cx [(44, iw), (49, iU)]) (ax ⟨ja, jF, trivial⟩) (fn := Try.f48) rfl rfl rfl rfl fun hw hs => ?_
 obtain ⟨hp, hl⟩ := hp
 have hk : k.toNat < 256 := k.toNat_lt
 have hkk : byte k.toNat = k := cF _
 all_goals try conv => whnf
 all_goals try (refine af.mk ?_; try dsimp only)
 all_goals try refine stay ?_
 refine cg.mk (Nat × Cu) (fun | (i, d) => i ≤ t.length ∧ d.ok ∧ d.word (t.drop i) = c.word t) (fun | (i, d) => ⟨25, [(0, .ptr 0 0), (1, bv k), (2, .str t), (6, .ptr 1 0), (9, .int .i64 t.length), (10, .int .i64 i)], [.cells (eC d), .cells [.int .u8 0, .str []]], []⟩) (fun x => t.length - x.1) [] (0, c) ⟨by omega, hp, rfl⟩ ?_ (fun ⟨i, d⟩ ⟨hi, hd, he⟩ _ _ => ?_)
 . refine Go.VG.Sub.mk rfl ?_ ?_ ?_ ?_ <;> (repeat' first | trivial)
 have hb : d.aa.toNat < 256 := d.aa.toNat_lt
 have hx : (t.getD i 0).toNat < 256 := UInt8.toNat_lt _
 have hbo := (jh hd 1).1
 have hdr : i < t.length → t.drop i = t.getD i 0 :: t.drop (i + 1) := fun h => by
  rw [List.drop_eq_getElem_cons h, List.getD_eq_getElem?_getD, List.getElem?_eq_getElem h]; rfl
 repeat' ((conv => whnf); first | apply al | apply bh | (apply ay <;> intro h) | with_reducible refine kF ?_ fun hc => ?_)
 all_goals try conv => whnf
 all_goals try (refine af.mk ?_; try dsimp only)
 all_goals (try simp only [aO] at *)
 all_goals first | refine stay ?_ | trivial | omega | skip
 . rw [hdr (by omega), B3, if_neg (fun e => e (UInt8.toNat_inj.1 (by omega)))] at he
   refine ⟨[], (i + 1, d.byte), ⟨by omega, hbo, he⟩, ?_, by show t.length - (i + 1) < t.length - i; omega⟩
   refine Go.VG.Sub.mk rfl ?_ ?_ ?_ ?_ <;> (repeat' first | trivial | apply ak | apply cw)
   all_goals (simp (discharger := omega) only [wR]; omega)
 . rw [hdr (by omega), B3, if_pos (fun e => by have := congrArg UInt8.toNat e; omega)] at he
   rw [← he]
   refine ah.mk [] ?_ <;> (repeat' first | trivial)
 . rw [List.drop_eq_nil_of_le (by omega), IA] at he
   rw [← he]
   refine ah.mk [] ?_ <;> (repeat' first | trivial)
def uZ : Sm := fun args σ => match args, σ with
 | [.ptr 0 0, .int .u8 n_k, .str t], [.cells ([.str s_c, .int .i64 (.ofNat a_c), .int .i64 (.ofNat e_c), .int .i64 c_c])] => some ((0 ≤ n_k ∧ n_k ≤ 255) ∧ (True ∧ ((Cu.mk s_c a_c e_c c_c).ok ∧ t.length ≤ 100)), .agg (eT (if ((Cu.mk s_c a_c e_c c_c).word t).2 = true then ⟨(byte n_k), []⟩ else .no)), some [.cells (eC ((Cu.mk s_c a_c e_c c_c).word t).1)])
 | _, _ => none
theorem F2 : aI 48 uZ := by
 intro args sg pre x r he hp
 unfold uZ at he
 split at he <;> cases he
 . rw [eK (hp).1]; rw [bW (hp.2).1]; exact Dj (hp := hp.2.2) ..
theorem De (c : Cu) (hp : c.ok ∧ c.s.length ≤ 10000000) : OK 18 ([.ptr 0 0]) ([.cells (eC c)]) (.agg (eT c.next.2)) (some [.cells (eC c.next.1)]) := by
 refine az (C := cx [(42, uW), (43, kW), (38, pA), (44, iw), (45, uU), (46, uX), (47, uM), (37, pB), (48, uZ), (49, iU)]) (ax ⟨EZ, na, tw, ja, EX, F0, EO, tx, F2, jF, trivial⟩) (fn := Try.f18) rfl rfl rfl rfl fun hw hs => ?_
 obtain ⟨hp, hl⟩ := hp
 have hbk := wc hp
 have hbs : c.bR.s = c.s := by unfold Cu.bR; split <;> rfl
 have hb : c.bR.aa.toNat < 256 := c.bR.aa.toNat_lt
 have hbb : byte c.bR.aa.toNat = c.bR.aa := cF _
 repeat' ((conv => whnf); first | apply al | apply bh | (apply ay <;> intro h))
 all_goals try conv => whnf
 all_goals try (refine af.mk ?_; try dsimp only)
 all_goals (try simp only [aO] at *)
 all_goals first | refine stay ?_ | trivial | (simp (discharger := omega) [-List.getD_eq_getElem?_getD, wR] <;> omega) | skip
 all_goals (try simp only [hbb] at *)
 all_goals first
  | exact ⟨trivial, hbk⟩
  | exact ⟨trivial, hbk, by rw [hbs]; omega⟩
  | exact ⟨by omega, trivial⟩
  | (exfalso; omega)
  | skip
 all_goals
  have hh : c.bR.has ∨ ¬ c.bR.has := Decidable.em _
  have sT : dL c.bR.aa = true ↔ (c.bR.aa.toNat = 123 ∨ c.bR.aa.toNat = 125 ∨ c.bR.aa.toNat = 91 ∨ c.bR.aa.toNat = 93 ∨ c.bR.aa.toNat = 58 ∨ c.bR.aa.toNat = 44) := decide_eq_true_iff
  have dT := jv (b := c.bR.aa)
  unfold Cu.next Cu.pF
  first
  | rw [if_pos (show ¬ c.bR.has by assumption)]
  | rw [if_neg (fun q => q (show c.bR.has by assumption))]
  repeat (first | rw [if_pos (by rw [sT]; omega)] | rw [if_neg (by rw [sT]; omega)] | rw [if_pos (by rw [dT]; omega)] | rw [if_neg (by rw [dT]; omega)] | rw [if_pos (by omega)] | rw [if_neg (by omega)])
  try unfold held Cu.nQ
  try rw [show (byte 116).toNat = 116 from rfl]
  refine ah.mk [] ?_ <;> (repeat' first | trivial)
def ma : Sm := fun args σ => match args, σ with
 | [.ptr 0 0], [.cells ([.str s_c, .int .i64 (.ofNat a_c), .int .i64 (.ofNat e_c), .int .i64 c_c])] => some (True ∧ ((Cu.mk s_c a_c e_c c_c).ok ∧ (Cu.mk s_c a_c e_c c_c).s.length ≤ 10000000), .agg (eT (Cu.mk s_c a_c e_c c_c).next.2), some [.cells (eC (Cu.mk s_c a_c e_c c_c).next.1)])
 | _, _ => none
theorem oL : aI 18 ma := by
 intro args sg pre x r he hp
 unfold ma at he
 split at he <;> cases he
 . rw [bW (hp).1]; exact De (hp := hp.2) ..
end Go.Proofs.Ytllncocibkgjkaa
