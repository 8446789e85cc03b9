/-
  A part of the proof.
-/
import Derived.Test.YtllncocibkgjkaaJNw
import Derived.Test.YtllncocibkgjkaaJNd
set_option linter.unusedSimpArgs false
set_option linter.unusedVariables false
set_option maxHeartbeats 4000000
namespace Go.Proofs.Ytllncocibkgjkaa
open Go Go.VG
set_option maxRecDepth 100000
theorem E7 (c : Cu) (hp : c.ok ∧ c.s.length ≤ 100000000) : OK 47 ([.ptr 0 0]) ([.cells (eC c)]) (.str c.num.2) (some [.cells (eC c.num.1)]) := by
 refine aC (C := cxh [(79, vI), (21, iS)] [(2, [.cell 1 1 1])]) (ay ⟨Gm, jE, trivial⟩) (fn := Try.f47) rfl rfl rfl rfl fun hw hs => ?_
 obtain ⟨hp, hl⟩ := hp
 repeat' ((conv => whnf); first | apply al | apply aZ | (apply ao <;> intro h) | apply mh)
 all_goals try conv => whnf
 all_goals try (refine ae.mk ?_; try dsimp only)
 all_goals (try simp only [aR] at *)
 all_goals first | refine stay ?_ | trivial | skip
 . unfold Cu.num
   rw [if_pos (by assumption)]
   refine a8.mk [] ?_ <;> (repeat' first | trivial)
 . unfold Cu.num
   rw [if_neg (by assumption)]
   refine a8.mk [] ?_ <;> (repeat' first | trivial)
def vJ : Sm := fun args σ => match args, σ with
 | [.ptr 0 0], [.cells ([.str s_c, .int .i64 (.ofNat a_c), .int .i64 (.ofNat e_c), .int .i64 c_c])] => some (True ∧ ((Cu.mk s_c a_c e_c c_c).ok ∧ (Cu.mk s_c a_c e_c c_c).s.length ≤ 100000000), .str (Cu.mk s_c a_c e_c c_c).num.2, some [.cells (eC (Cu.mk s_c a_c e_c c_c).num.1)])
 | _, _ => none
theorem Gn : aD 47 vJ := by
 intro args sg pre x r he hp
 unfold vJ at he
 split at he <;> cases he
 . rw [bZ (hp).1]; exact E7 (hp := hp.2) ..
theorem Cy {c : Cu} (hk : c.ok) (h : c.has) (hb : bO c.ai = true) : c.byte.cq = c.cq := by
 obtain ⟨b1, b2⟩ := fh h.1 h.2
 have hl := ey hk
 have hp : c.p < c.a9.length := by have := h.2; omega
 rw [b2] at hb
 unfold Cu.cq
 rw [b1, if_pos (show ({ c with p := c.p + 1 } : Cu).c = 0 from h.1), if_pos h.1]
 have e : Cu.a9 { c with p := c.p + 1 } = c.a9 := rfl
 rw [e, vh hp hb]
theorem xE {c : Cu} (hk : c.ok) (h : ¬ c.has ∨ bO c.ai = false) : c.cq = c := by
 have hl := ey hk
 unfold Cu.cq
 by_cases h0 : c.c = 0
 . rw [if_pos h0]
   have : cm bO c.a9 c.p = c.p := by
    by_cases hp : c.p < c.e
    . obtain ⟨_, b2⟩ := fh h0 hp
      rcases h with h | h
      . exact absurd ⟨h0, hp⟩ h
      . rw [b2] at h; exact oe (.inr h)
    . exact oe (.inl (by have := hk.1; omega))
   rw [this]
 . rw [if_neg h0]
theorem tf {b : UInt8} : bO b = true ↔ b.toNat = 32 ∨ b.toNat = 9 ∨ b.toNat = 10 ∨ b.toNat = 13 := by simp [bO]
theorem qK {b : UInt8} : bO b = false ↔ ¬ (b.toNat = 32 ∨ b.toNat = 9 ∨ b.toNat = 10 ∨ b.toNat = 13) := by rw [← tf, Bool.not_eq_true]
theorem Em (c : Cu) (hp : c.ok) : OK 42 ([.ptr 0 0]) ([.cells (eC c)]) (.tuple []) (some [.cells (eC c.cq)]) := by
 refine aC (C := cx [(43, lG), (44, iR)]) (ay ⟨nL, jD, trivial⟩) (fn := Try.f42) rfl rfl rfl rfl fun hw hs => ?_
 refine bn.mk Cu (fun d => d.ok ∧ d.cq = c.cq) (fun d => ⟨29, [(0, .ptr 0 0)], [.cells (eC d)], []⟩) (fun d => d.e - d.p) [] c ⟨hp, rfl⟩ ?_ (fun d ⟨hd, he⟩ _ _ => ?_)
 . refine Go.VG.Sub.mk rfl ?_ ?_ ?_ ?_ <;> (repeat' first | trivial)
 have hb : d.ai.toNat < 256 := d.ai.toNat_lt
 have hbo := jK hd 1
 have hbk : d.byte.ok := hbo.1
 repeat' ((conv => whnf); first | apply al | apply aZ | (apply ao <;> intro h))
 all_goals try conv => whnf
 all_goals try (refine ae.mk ?_; try dsimp only)
 all_goals (try simp only [aR] at *)
 all_goals first | refine stay ?_ | trivial | skip
 all_goals first
  | (have hh : d.has := by assumption
     have hx := Cy hd hh (tf.2 (by omega))
     have hy := (fh hh.1 hh.2).1
     refine ⟨[], d.byte, ⟨hbk, hx.trans he⟩, ?_, by have := hh.2; rw [hy]; show d.e - (d.p + 1) < d.e - d.p; omega⟩
     refine Go.VG.Sub.mk rfl ?_ ?_ ?_ ?_ <;> (repeat' first | trivial)
     )
  | (have hx := xE hd (.inl (by assumption))
     rw [← he, hx]
     refine a8.mk [] ?_ <;> (repeat' first | trivial)
     )
  | (have hx := xE hd (.inr (qK.2 (by omega)))
     rw [← he, hx]
     refine a8.mk [] ?_ <;> (repeat' first | trivial)
     )
  | skip
def vU : Sm := fun args σ => match args, σ with
 | [.ptr 0 0], [.cells ([.str s_c, .int .i64 (.ofNat a_c), .int .i64 (.ofNat e_c), .int .i64 c_c])] => some (True ∧ ((Cu.mk s_c a_c e_c c_c).ok), .tuple [], some [.cells (eC (Cu.mk s_c a_c e_c c_c).cq)])
 | _, _ => none
theorem Gy : aD 42 vU := by
 intro args sg pre x r he hp
 unfold vU at he
 split at he <;> cases he
 . rw [bZ (hp).1]; exact Em (hp := hp.2) ..
theorem Ep (b : UInt8) (hp : True) : OK 38 ([bv b, .list true 1 [.int .u8 123, .int .u8 125, .int .u8 91, .int .u8 93, .int .u8 58, .int .u8 44]]) ([]) (.bool (bB b)) (none) := by
 refine aC (C := cx []) (ay trivial) (fn := Try.f38) rfl rfl rfl rfl fun hw hs => ?_
 have hb : b.toNat < 256 := b.toNat_lt
 have hl : ([123, 125, 91, 93, 58, 44] : List UInt8).length = 6 := rfl
 refine bn.mk Nat (fun i => i ≤ 6 ∧ ∀ j, j < i → ([123, 125, 91, 93, 58, 44] : List UInt8).getD j 0 ≠ b) (fun i => ⟨17, [(0, bv b), (7, .list true 1 (bl [123, 125, 91, 93, 58, 44])), (8, .int .i64 6), (9, .int .i64 i)], [], []⟩) (fun i => 6 - i) [] 0 ⟨by omega, fun j hj => absurd hj (by omega)⟩ ?_ (fun i ⟨hi, hj⟩ _ _ => ?_)
 . refine Go.VG.Sub.mk rfl ?_ ?_ ?_ ?_ <;> (repeat' first | trivial)
 have hx : (([123, 125, 91, 93, 58, 44] : List UInt8).getD i 0).toNat < 256 := UInt8.toNat_lt _
 have hin : ∀ j, j < 6 → bB (([123, 125, 91, 93, 58, 44] : List UInt8).getD j 0) = true := by decide
 have hno : i = 6 → bB b = false := fun e => by
  cases q : bB b with
  | false => rfl
  | true =>
    have h : ∀ n : Nat, n < 256 → bB (.ofNat n) = true → ∃ j, j < 6 ∧ ([123, 125, 91, 93, 58, 44] : List UInt8).getD j 0 = .ofNat n := by decide +kernel
    obtain ⟨j, h1, h2⟩ := h b.toNat hb (by rw [UInt8.ofNat_toNat]; exact q)
    rw [UInt8.ofNat_toNat] at h2
    exact absurd h2 (hj j (by omega))
 repeat' ((conv => whnf); first | apply al | (apply ao <;> intro h) | with_reducible refine goB ?_ fun hc => ?_)
 all_goals try conv => whnf
 all_goals try (refine ae.mk ?_; try dsimp only)
 all_goals (try simp only [aR] at *)
 all_goals first | refine stay ?_ | omega | skip
 . have e : ([123, 125, 91, 93, 58, 44] : List UInt8).getD i 0 = b := UInt8.toNat_inj.1 (by omega)
   have := hin i (by omega)
   rw [e] at this
   rw [this]
   refine a8.mk [] ?_ <;> (repeat' first | trivial)
 . refine ⟨[], i + 1, ⟨by omega, fun j hjj => ?_⟩, ?_, by omega⟩
   . by_cases e : j = i
     . subst e; intro e; have := congrArg UInt8.toNat e; omega
     . exact hj j (by omega)
   . refine Go.VG.Sub.mk rfl ?_ ?_ ?_ ?_ <;> (repeat' first | trivial | apply aj | apply aQ)
     all_goals (simp (discharger := omega) only [wR]; omega)
 . rw [hno (by omega)]
   refine a8.mk [] ?_ <;> (repeat' first | trivial)
def qa : Sm := fun args σ => match args, σ with
 | [.int .u8 n_b, .list true 1 [.int .u8 123, .int .u8 125, .int .u8 91, .int .u8 93, .int .u8 58, .int .u8 44]], [] => some ((0 ≤ n_b ∧ n_b ≤ 255) ∧ (True), .bool (bB (byte n_b)), none)
 | _, _ => none
theorem uh : aD 38 qa := by
 intro args sg pre x r he hp
 unfold qa at he
 split at he <;> cases he
 . rw [da (hp).1]; exact Ep (hp := hp.2) ..
theorem Eu (k : UInt8) (hp : True) : OK 37 ([bv k]) ([]) (.str (spell k)) (none) := by
 refine aC (C := cx []) (ay trivial) (fn := Try.f37) rfl rfl rfl rfl fun hw hs => ?_
 have hb : k.toNat < 256 := k.toNat_lt
 repeat' ((conv => whnf); (apply ao <;> intro h))
 all_goals try conv => whnf
 all_goals try (refine ae.mk ?_; try dsimp only)
 all_goals (try simp only [aR] at *)
 all_goals try refine stay ?_
 all_goals
  unfold spell
  repeat (first | rw [if_pos (by omega)] | rw [if_neg (by omega)])
  refine a8.mk [] ?_ <;> (repeat' first | trivial)
def qb : Sm := fun args σ => match args, σ with
 | [.int .u8 n_k], [] => some ((0 ≤ n_k ∧ n_k ≤ 255) ∧ (True), .str (spell (byte n_k)), none)
 | _, _ => none
theorem ui : aD 37 qb := by
 intro args sg pre x r he hp
 unfold qb at he
 split at he <;> cases he
 . rw [da (hp).1]; exact Eu (hp := hp.2) ..
abbrev eT (t : Tk) : List V := [.int .u8 t.k.toNat, .str t.t]
theorem En (c : Cu) (k : UInt8) (t : List UInt8) (hp : True) : OK 46 ([.ptr 0 0, .agg [bv k, .str t]]) ([.cells (eC c)]) (.agg (eT (if c.c = 0 then ⟨k, t⟩ else .no))) (none) := by
 refine aC (C := cx [(21, iS)]) (ay ⟨jE, trivial⟩) (fn := Try.f46) rfl rfl rfl rfl fun hw hs => ?_
 have hb : k.toNat < 256 := k.toNat_lt
 have hbb : byte k.toNat = k := bH _
 repeat' ((conv => whnf); first | apply al | apply aZ | (apply ao <;> intro h))
 all_goals try conv => whnf
 all_goals try (refine ae.mk ?_; try dsimp only)
 all_goals (try simp only [aR] at *)
 all_goals first | refine stay ?_ | trivial | skip
 all_goals
  first | rw [if_pos (by assumption)] | rw [if_neg (by assumption)]
  refine a8.mk [] ?_ <;> (repeat' first | trivial)
def vV : Sm := fun args σ => match args, σ with
 | [.ptr 0 0, .agg [.int .u8 n_k, .str t]], [.cells ([.str s_c, .int .i64 (.ofNat a_c), .int .i64 (.ofNat e_c), .int .i64 c_c])] => some ((0 ≤ n_k ∧ n_k ≤ 255) ∧ (True ∧ (True)), .agg (eT (if (Cu.mk s_c a_c e_c c_c).c = 0 then ⟨(byte n_k), t⟩ else .no)), none)
 | _, _ => none
theorem Gz : aD 46 vV := by
 intro args sg pre x r he hp
 unfold vV at he
 split at he <;> cases he
 . rw [da (hp).1]; rw [bZ (hp.2).1]; exact En (hp := hp.2.2) ..
theorem Ch (b : UInt8) (s : List UInt8) (c : Cu) : c.word (b :: s) = if c.ai ≠ b then (c.byte.fail 3, false) else c.byte.word s := rfl
theorem Ku (c : Cu) : c.word [] = (c, true) := rfl
theorem Ev (c : Cu) (k : UInt8) (t : List UInt8) (hp : c.ok ∧ t.length ≤ 100) : OK 48 ([.ptr 0 0, bv k, .str t]) ([.cells (eC c)]) (.agg (eT (if (c.word t).2 = true then ⟨k, []⟩ else .no))) (some [.cells (eC (c.word t).1)]) := by
 refine aC (C := cx [(44, iR), (49, jl)]) (ay ⟨jD, kg, trivial⟩) (fn := Try.f48) rfl rfl rfl rfl fun hw hs => ?_
 obtain ⟨hp, hl⟩ := hp
 have hk : k.toNat < 256 := k.toNat_lt
 have hkk : byte k.toNat = k := bH _
 all_goals try conv => whnf
 all_goals try (refine ae.mk ?_; try dsimp only)
 all_goals try refine stay ?_
 refine bn.mk (Nat × Cu) (fun | (i, d) => i ≤ t.length ∧ d.ok ∧ d.word (t.drop i) = c.word t) (fun | (i, d) => ⟨25, [(0, .ptr 0 0), (1, bv k), (2, .str t), (6, .ptr 1 0), (9, .int .i64 t.length), (10, .int .i64 i)], [.cells (eC d), .cells [.int .u8 0, .str []]], []⟩) (fun x => t.length - x.1) [] (0, c) ⟨by omega, hp, rfl⟩ ?_ (fun ⟨i, d⟩ ⟨hi, hd, he⟩ _ _ => ?_)
 . refine Go.VG.Sub.mk rfl ?_ ?_ ?_ ?_ <;> (repeat' first | trivial)
 have hb : d.ai.toNat < 256 := d.ai.toNat_lt
 have hx : (t.getD i 0).toNat < 256 := UInt8.toNat_lt _
 have hbo := (jK hd 1).1
 have hdr : i < t.length → t.drop i = t.getD i 0 :: t.drop (i + 1) := fun h => by
  rw [List.drop_eq_getElem_cons h, List.getD_eq_getElem?_getD, List.getElem?_eq_getElem h]; rfl
 repeat' ((conv => whnf); first | apply al | apply aZ | (apply ao <;> intro h) | with_reducible refine eo ?_ fun hc => ?_)
 all_goals try conv => whnf
 all_goals try (refine ae.mk ?_; try dsimp only)
 all_goals (try simp only [aR] at *)
 all_goals first | refine stay ?_ | trivial | omega | skip
 . rw [hdr (by omega), Ch, if_neg (fun e => e (UInt8.toNat_inj.1 (by omega)))] at he
   refine ⟨[], (i + 1, d.byte), ⟨by omega, hbo, he⟩, ?_, by show t.length - (i + 1) < t.length - i; omega⟩
   refine Go.VG.Sub.mk rfl ?_ ?_ ?_ ?_ <;> (repeat' first | trivial | apply aj | apply aQ)
   all_goals (simp (discharger := omega) only [wR]; omega)
 . rw [hdr (by omega), Ch, if_pos (fun e => by have := congrArg UInt8.toNat e; omega)] at he
   rw [← he]
   refine a8.mk [] ?_ <;> (repeat' first | trivial)
 . rw [List.drop_eq_nil_of_le (by omega), Ku] at he
   rw [← he]
   refine a8.mk [] ?_ <;> (repeat' first | trivial)
def vX : Sm := fun args σ => match args, σ with
 | [.ptr 0 0, .int .u8 n_k, .str t], [.cells ([.str s_c, .int .i64 (.ofNat a_c), .int .i64 (.ofNat e_c), .int .i64 c_c])] => some ((0 ≤ n_k ∧ n_k ≤ 255) ∧ (True ∧ ((Cu.mk s_c a_c e_c c_c).ok ∧ t.length ≤ 100)), .agg (eT (if ((Cu.mk s_c a_c e_c c_c).word t).2 = true then ⟨(byte n_k), []⟩ else .no)), some [.cells (eC ((Cu.mk s_c a_c e_c c_c).word t).1)])
 | _, _ => none
theorem GB : aD 48 vX := by
 intro args sg pre x r he hp
 unfold vX at he
 split at he <;> cases he
 . rw [da (hp).1]; rw [bZ (hp.2).1]; exact Ev (hp := hp.2.2) ..
theorem Eo (c : Cu) (hp : c.ok ∧ c.s.length ≤ 10000000) : OK 18 ([.ptr 0 0]) ([.cells (eC c)]) (.agg (eT c.next.2)) (some [.cells (eC c.next.1)]) := by
 refine aC (C := cx [(42, vU), (43, lG), (38, qa), (44, iR), (45, vR), (46, vV), (47, vJ), (37, qb), (48, vX), (49, jl)]) (ay ⟨Gy, nL, uh, jD, Gw, Gz, Gn, ui, GB, kg, trivial⟩) (fn := Try.f18) rfl rfl rfl rfl fun hw hs => ?_
 obtain ⟨hp, hl⟩ := hp
 have hbk := xD hp
 have hbs : c.cq.s = c.s := by unfold Cu.cq; split <;> rfl
 have hb : c.cq.ai.toNat < 256 := c.cq.ai.toNat_lt
 have hbb : byte c.cq.ai.toNat = c.cq.ai := bH _
 repeat' ((conv => whnf); first | apply al | apply aZ | (apply ao <;> intro h))
 all_goals try conv => whnf
 all_goals try (refine ae.mk ?_; try dsimp only)
 all_goals (try simp only [aR] at *)
 all_goals first | refine stay ?_ | trivial | (simp (discharger := omega) [-List.getD_eq_getElem?_getD, wR] <;> omega) | skip
 all_goals (try simp only [hbb] at *)
 all_goals first
  | exact ⟨trivial, hbk⟩
  | exact ⟨trivial, hbk, by rw [hbs]; omega⟩
  | exact ⟨by omega, trivial⟩
  | (exfalso; omega)
  | skip
 all_goals
  have hh : c.cq.has ∨ ¬ c.cq.has := Decidable.em _
  have sT : bB c.cq.ai = true ↔ (c.cq.ai.toNat = 123 ∨ c.cq.ai.toNat = 125 ∨ c.cq.ai.toNat = 91 ∨ c.cq.ai.toNat = 93 ∨ c.cq.ai.toNat = 58 ∨ c.cq.ai.toNat = 44) := decide_eq_true_iff
  have dT := jr (b := c.cq.ai)
  unfold Cu.next Cu.qj
  first
  | rw [if_pos (show ¬ c.cq.has by assumption)]
  | rw [if_neg (fun q => q (show c.cq.has by assumption))]
  repeat (first | rw [if_pos (by rw [sT]; omega)] | rw [if_neg (by rw [sT]; omega)] | rw [if_pos (by rw [dT]; omega)] | rw [if_neg (by rw [dT]; omega)] | rw [if_pos (by omega)] | rw [if_neg (by omega)])
  try unfold held Cu.oF
  try rw [show (byte 116).toNat = 116 from rfl]
  refine a8.mk [] ?_ <;> (repeat' first | trivial)
def mN : Sm := fun args σ => match args, σ with
 | [.ptr 0 0], [.cells ([.str s_c, .int .i64 (.ofNat a_c), .int .i64 (.ofNat e_c), .int .i64 c_c])] => some (True ∧ ((Cu.mk s_c a_c e_c c_c).ok ∧ (Cu.mk s_c a_c e_c c_c).s.length ≤ 10000000), .agg (eT (Cu.mk s_c a_c e_c c_c).next.2), some [.cells (eC (Cu.mk s_c a_c e_c c_c).next.1)])
 | _, _ => none
theorem ph : aD 18 mN := by
 intro args sg pre x r he hp
 unfold mN at he
 split at he <;> cases he
 . rw [bZ (hp).1]; exact Eo (hp := hp.2) ..
end Go.Proofs.Ytllncocibkgjkaa
