/-
  A part of the proof.
-/
import Derived.Test.YtllncocibkgjkaaGreatJNw
import Derived.Test.YtllncocibkgjkaaGreatJNd
set_option linter.unusedSimpArgs false
set_option linter.unusedVariables false
set_option maxHeartbeats 4000000
namespace Go.Proofs.YtllncocibkgjkaaGreat
open Go Go.VG
set_option maxRecDepth 100000
theorem F4 (c : Cu) (hp : c.ok ∧ c.s.length ≤ 100000000) : OK 101 ([.ptr 0 0]) ([.cells (eC c)]) (.str c.num.2) (some [.cells (eC c.num.1)]) := by
 refine aq (C := cxh [(76, wu), (73, jD)] [(2, [.cell 1 1 1])]) (ar ⟨Hv, kG, trivial⟩) (fn := Tryz.f101) rfl rfl rfl rfl fun hw hs => ?_
 obtain ⟨hp, hl⟩ := hp
 repeat' ((conv => whnf); first | apply ak | apply aV | (apply al <;> intro h) | apply mH)
 all_goals try conv => whnf
 all_goals try (refine ab.mk ?_; try dsimp only)
 all_goals (try simp only [aP] at *)
 all_goals first | refine stay ?_ | trivial | skip
 . unfold Cu.num
   rw [if_pos (by assumption)]
   refine a8.mk [] ?_ <;> (repeat' first | trivial)
 . unfold Cu.num
   rw [if_neg (by assumption)]
   refine a8.mk [] ?_ <;> (repeat' first | trivial)
def wv : Sm := fun args σ => match args, σ with
 | [.ptr 0 0], [.cells ([.str s_c, .int .i64 (.ofNat a_c), .int .i64 (.ofNat e_c), .int .i64 c_c])] => some (True ∧ ((Cu.mk s_c a_c e_c c_c).ok ∧ (Cu.mk s_c a_c e_c c_c).s.length ≤ 100000000), .str (Cu.mk s_c a_c e_c c_c).num.2, some [.cells (eC (Cu.mk s_c a_c e_c c_c).num.1)])
 | _, _ => none
theorem Hw : ay 101 wv := by
 intro args sg pre x r he hp
 unfold wv at he
 split at he <;> cases he
 . rw [bZ (hp).1]; exact F4 (hp := hp.2) ..
theorem Dj {c : Cu} (hk : c.ok) (h : c.has) (hb : bQ c.ah = true) : c.byte.cm = c.cm := by
 obtain ⟨b1, b2⟩ := fi h.1 h.2
 have hl := eA hk
 have hp : c.p < c.a9.length := by have := h.2; omega
 rw [b2] at hb
 unfold Cu.cm
 rw [b1, if_pos (show ({ c with p := c.p + 1 } : Cu).c = 0 from h.1), if_pos h.1]
 have e : Cu.a9 { c with p := c.p + 1 } = c.a9 := rfl
 rw [e, vL hp hb]
theorem yg {c : Cu} (hk : c.ok) (h : ¬ c.has ∨ bQ c.ah = false) : c.cm = c := by
 have hl := eA hk
 unfold Cu.cm
 by_cases h0 : c.c = 0
 . rw [if_pos h0]
   have : cg bQ c.a9 c.p = c.p := by
    by_cases hp : c.p < c.e
    . obtain ⟨_, b2⟩ := fi h0 hp
      rcases h with h | h
      . exact absurd ⟨h0, hp⟩ h
      . rw [b2] at h; exact oH (.inr h)
    . exact oH (.inl (by have := hk.1; omega))
   rw [this]
 . rw [if_neg h0]
theorem tW {b : UInt8} : bQ b = true ↔ b.toNat = 32 ∨ b.toNat = 9 ∨ b.toNat = 10 ∨ b.toNat = 13 := by simp [bQ]
theorem qY {b : UInt8} : bQ b = false ↔ ¬ (b.toNat = 32 ∨ b.toNat = 9 ∨ b.toNat = 10 ∨ b.toNat = 13) := by rw [← tW, Bool.not_eq_true]
theorem Fh (c : Cu) (hp : c.ok) : OK 95 ([.ptr 0 0]) ([.cells (eC c)]) (.tuple []) (some [.cells (eC c.cm)]) := by
 refine aq (C := cx [(96, lY), (98, jd)]) (ar ⟨nY, jV, trivial⟩) (fn := Tryz.f95) rfl rfl rfl rfl fun hw hs => ?_
 refine bn.mk Cu (fun d => d.ok ∧ d.cm = c.cm) (fun d => ⟨29, [(0, .ptr 0 0)], [.cells (eC d)], []⟩) (fun d => d.e - d.p) [] c ⟨hp, rfl⟩ ?_ (fun d ⟨hd, he⟩ _ _ => ?_)
 . refine Go.VG.Sub.mk rfl ?_ ?_ ?_ ?_ <;> (repeat' first | trivial)
 have hb : d.ah.toNat < 256 := d.ah.toNat_lt
 have hbo := ka hd 1
 have hbk : d.byte.ok := hbo.1
 repeat' ((conv => whnf); first | apply ak | apply aV | (apply al <;> intro h))
 all_goals try conv => whnf
 all_goals try (refine ab.mk ?_; try dsimp only)
 all_goals (try simp only [aP] at *)
 all_goals first | refine stay ?_ | trivial | skip
 all_goals first
  | (have hh : d.has := by assumption
     have hx := Dj hd hh (tW.2 (by omega))
     have hy := (fi hh.1 hh.2).1
     refine ⟨[], d.byte, ⟨hbk, hx.trans he⟩, ?_, by have := hh.2; rw [hy]; show d.e - (d.p + 1) < d.e - d.p; omega⟩
     refine Go.VG.Sub.mk rfl ?_ ?_ ?_ ?_ <;> (repeat' first | trivial)
     )
  | (have hx := yg hd (.inl (by assumption))
     rw [← he, hx]
     refine a8.mk [] ?_ <;> (repeat' first | trivial)
     )
  | (have hx := yg hd (.inr (qY.2 (by omega)))
     rw [← he, hx]
     refine a8.mk [] ?_ <;> (repeat' first | trivial)
     )
  | skip
def wI : Sm := fun args σ => match args, σ with
 | [.ptr 0 0], [.cells ([.str s_c, .int .i64 (.ofNat a_c), .int .i64 (.ofNat e_c), .int .i64 c_c])] => some (True ∧ ((Cu.mk s_c a_c e_c c_c).ok), .tuple [], some [.cells (eC (Cu.mk s_c a_c e_c c_c).cm)])
 | _, _ => none
theorem HG : ay 95 wI := by
 intro args sg pre x r he hp
 unfold wI at he
 split at he <;> cases he
 . rw [bZ (hp).1]; exact Fh (hp := hp.2) ..
theorem Fk (b : UInt8) (hp : True) : OK 97 ([bv b, .list true 1 [.int .u8 123, .int .u8 125, .int .u8 91, .int .u8 93, .int .u8 58, .int .u8 44]]) ([]) (.bool (bJ b)) (none) := by
 refine aq (C := cx []) (ar trivial) (fn := Tryz.f97) rfl rfl rfl rfl fun hw hs => ?_
 have hb : b.toNat < 256 := b.toNat_lt
 have hl : ([123, 125, 91, 93, 58, 44] : List UInt8).length = 6 := rfl
 refine bn.mk Nat (fun i => i ≤ 6 ∧ ∀ j, j < i → ([123, 125, 91, 93, 58, 44] : List UInt8).getD j 0 ≠ b) (fun i => ⟨17, [(0, bv b), (7, .list true 1 (bl [123, 125, 91, 93, 58, 44])), (8, .int .i64 6), (9, .int .i64 i)], [], []⟩) (fun i => 6 - i) [] 0 ⟨by omega, fun j hj => absurd hj (by omega)⟩ ?_ (fun i ⟨hi, hj⟩ _ _ => ?_)
 . refine Go.VG.Sub.mk rfl ?_ ?_ ?_ ?_ <;> (repeat' first | trivial)
 have hx : (([123, 125, 91, 93, 58, 44] : List UInt8).getD i 0).toNat < 256 := UInt8.toNat_lt _
 have hin : ∀ j, j < 6 → bJ (([123, 125, 91, 93, 58, 44] : List UInt8).getD j 0) = true := by decide
 have hno : i = 6 → bJ b = false := fun e => by
  cases q : bJ b with
  | false => rfl
  | true =>
    have h : ∀ n : Nat, n < 256 → bJ (.ofNat n) = true → ∃ j, j < 6 ∧ ([123, 125, 91, 93, 58, 44] : List UInt8).getD j 0 = .ofNat n := by decide +kernel
    obtain ⟨j, h1, h2⟩ := h b.toNat hb (by rw [UInt8.ofNat_toNat]; exact q)
    rw [UInt8.ofNat_toNat] at h2
    exact absurd h2 (hj j (by omega))
 repeat' ((conv => whnf); first | apply ak | (apply al <;> intro h) | with_reducible refine goB ?_ fun hc => ?_)
 all_goals try conv => whnf
 all_goals try (refine ab.mk ?_; try dsimp only)
 all_goals (try simp only [aP] at *)
 all_goals first | refine stay ?_ | omega | skip
 . have e : ([123, 125, 91, 93, 58, 44] : List UInt8).getD i 0 = b := UInt8.toNat_inj.1 (by omega)
   have := hin i (by omega)
   rw [e] at this
   rw [this]
   refine a8.mk [] ?_ <;> (repeat' first | trivial)
 . refine ⟨[], i + 1, ⟨by omega, fun j hjj => ?_⟩, ?_, by omega⟩
   . by_cases e : j = i
     . subst e; intro e; have := congrArg UInt8.toNat e; omega
     . exact hj j (by omega)
   . refine Go.VG.Sub.mk rfl ?_ ?_ ?_ ?_ <;> (repeat' first | trivial | apply aj | apply aR)
     all_goals (simp (discharger := omega) only [wR]; omega)
 . rw [hno (by omega)]
   refine a8.mk [] ?_ <;> (repeat' first | trivial)
def wK : Sm := fun args σ => match args, σ with
 | [.int .u8 n_b, .list true 1 [.int .u8 123, .int .u8 125, .int .u8 91, .int .u8 93, .int .u8 58, .int .u8 44]], [] => some ((0 ≤ n_b ∧ n_b ≤ 255) ∧ (True), .bool (bJ (byte n_b)), none)
 | _, _ => none
theorem HI : ay 97 wK := by
 intro args sg pre x r he hp
 unfold wK at he
 split at he <;> cases he
 . rw [dw (hp).1]; exact Fk (hp := hp.2) ..
theorem Fl (k : UInt8) (hp : True) : OK 103 ([bv k]) ([]) (.str (spell k)) (none) := by
 refine aq (C := cx []) (ar trivial) (fn := Tryz.f103) rfl rfl rfl rfl fun hw hs => ?_
 have hb : k.toNat < 256 := k.toNat_lt
 repeat' ((conv => whnf); (apply al <;> intro h))
 all_goals try conv => whnf
 all_goals try (refine ab.mk ?_; try dsimp only)
 all_goals (try simp only [aP] at *)
 all_goals try refine stay ?_
 all_goals
  unfold spell
  repeat (first | rw [if_pos (by omega)] | rw [if_neg (by omega)])
  refine a8.mk [] ?_ <;> (repeat' first | trivial)
def wL : Sm := fun args σ => match args, σ with
 | [.int .u8 n_k], [] => some ((0 ≤ n_k ∧ n_k ≤ 255) ∧ (True), .str (spell (byte n_k)), none)
 | _, _ => none
theorem HJ : ay 103 wL := by
 intro args sg pre x r he hp
 unfold wL at he
 split at he <;> cases he
 . rw [dw (hp).1]; exact Fl (hp := hp.2) ..
abbrev eT (t : Tk) : List V := [.int .u8 t.k.toNat, .str t.t]
theorem Fi (c : Cu) (k : UInt8) (t : List UInt8) (hp : True) : OK 100 ([.ptr 0 0, .agg [bv k, .str t]]) ([.cells (eC c)]) (.agg (eT (if c.c = 0 then ⟨k, t⟩ else .no))) (none) := by
 refine aq (C := cx [(73, jD)]) (ar ⟨kG, trivial⟩) (fn := Tryz.f100) rfl rfl rfl rfl fun hw hs => ?_
 have hb : k.toNat < 256 := k.toNat_lt
 have hbb : byte k.toNat = k := c5 _
 repeat' ((conv => whnf); first | apply ak | apply aV | (apply al <;> intro h))
 all_goals try conv => whnf
 all_goals try (refine ab.mk ?_; try dsimp only)
 all_goals (try simp only [aP] at *)
 all_goals first | refine stay ?_ | trivial | skip
 all_goals
  first | rw [if_pos (by assumption)] | rw [if_neg (by assumption)]
  refine a8.mk [] ?_ <;> (repeat' first | trivial)
def wJ : Sm := fun args σ => match args, σ with
 | [.ptr 0 0, .agg [.int .u8 n_k, .str t]], [.cells ([.str s_c, .int .i64 (.ofNat a_c), .int .i64 (.ofNat e_c), .int .i64 c_c])] => some ((0 ≤ n_k ∧ n_k ≤ 255) ∧ (True ∧ (True)), .agg (eT (if (Cu.mk s_c a_c e_c c_c).c = 0 then ⟨(byte n_k), t⟩ else .no)), none)
 | _, _ => none
theorem HH : ay 100 wJ := by
 intro args sg pre x r he hp
 unfold wJ at he
 split at he <;> cases he
 . rw [dw (hp).1]; rw [bZ (hp.2).1]; exact Fi (hp := hp.2.2) ..
theorem D2 (b : UInt8) (s : List UInt8) (c : Cu) : c.word (b :: s) = if c.ah ≠ b then (c.byte.fail 3, false) else c.byte.word s := rfl
theorem LR (c : Cu) : c.word [] = (c, true) := rfl
theorem Fm (c : Cu) (k : UInt8) (t : List UInt8) (hp : c.ok ∧ t.length ≤ 100) : OK 102 ([.ptr 0 0, bv k, .str t]) ([.cells (eC c)]) (.agg (eT (if (c.word t).2 = true then ⟨k, []⟩ else .no))) (some [.cells (eC (c.word t).1)]) := by
 refine aq (C := cx [(98, jd), (104, jE)]) (ar ⟨jV, kH, trivial⟩) (fn := Tryz.f102) rfl rfl rfl rfl fun hw hs => ?_
 obtain ⟨hp, hl⟩ := hp
 have hk : k.toNat < 256 := k.toNat_lt
 have hkk : byte k.toNat = k := c5 _
 all_goals try conv => whnf
 all_goals try (refine ab.mk ?_; try dsimp only)
 all_goals try refine stay ?_
 refine bn.mk (Nat × Cu) (fun | (i, d) => i ≤ t.length ∧ d.ok ∧ d.word (t.drop i) = c.word t) (fun | (i, d) => ⟨25, [(0, .ptr 0 0), (1, bv k), (2, .str t), (6, .ptr 1 0), (9, .int .i64 t.length), (10, .int .i64 i)], [.cells (eC d), .cells [.int .u8 0, .str []]], []⟩) (fun x => t.length - x.1) [] (0, c) ⟨by omega, hp, rfl⟩ ?_ (fun ⟨i, d⟩ ⟨hi, hd, he⟩ _ _ => ?_)
 . refine Go.VG.Sub.mk rfl ?_ ?_ ?_ ?_ <;> (repeat' first | trivial)
 have hb : d.ah.toNat < 256 := d.ah.toNat_lt
 have hx : (t.getD i 0).toNat < 256 := UInt8.toNat_lt _
 have hbo := (ka hd 1).1
 have hdr : i < t.length → t.drop i = t.getD i 0 :: t.drop (i + 1) := fun h => by
  rw [List.drop_eq_getElem_cons h, List.getD_eq_getElem?_getD, List.getElem?_eq_getElem h]; rfl
 repeat' ((conv => whnf); first | apply ak | apply aV | (apply al <;> intro h) | with_reducible refine et ?_ fun hc => ?_)
 all_goals try conv => whnf
 all_goals try (refine ab.mk ?_; try dsimp only)
 all_goals (try simp only [aP] at *)
 all_goals first | refine stay ?_ | trivial | omega | skip
 . rw [hdr (by omega), D2, if_neg (fun e => e (UInt8.toNat_inj.1 (by omega)))] at he
   refine ⟨[], (i + 1, d.byte), ⟨by omega, hbo, he⟩, ?_, by show t.length - (i + 1) < t.length - i; omega⟩
   refine Go.VG.Sub.mk rfl ?_ ?_ ?_ ?_ <;> (repeat' first | trivial | apply aj | apply aR)
   all_goals (simp (discharger := omega) only [wR]; omega)
 . rw [hdr (by omega), D2, if_pos (fun e => by have := congrArg UInt8.toNat e; omega)] at he
   rw [← he]
   refine a8.mk [] ?_ <;> (repeat' first | trivial)
 . rw [List.drop_eq_nil_of_le (by omega), LR] at he
   rw [← he]
   refine a8.mk [] ?_ <;> (repeat' first | trivial)
def wM : Sm := fun args σ => match args, σ with
 | [.ptr 0 0, .int .u8 n_k, .str t], [.cells ([.str s_c, .int .i64 (.ofNat a_c), .int .i64 (.ofNat e_c), .int .i64 c_c])] => some ((0 ≤ n_k ∧ n_k ≤ 255) ∧ (True ∧ ((Cu.mk s_c a_c e_c c_c).ok ∧ t.length ≤ 100)), .agg (eT (if ((Cu.mk s_c a_c e_c c_c).word t).2 = true then ⟨(byte n_k), []⟩ else .no)), some [.cells (eC ((Cu.mk s_c a_c e_c c_c).word t).1)])
 | _, _ => none
theorem HK : ay 102 wM := by
 intro args sg pre x r he hp
 unfold wM at he
 split at he <;> cases he
 . rw [dw (hp).1]; rw [bZ (hp.2).1]; exact Fm (hp := hp.2.2) ..
theorem Fj (c : Cu) (hp : c.ok ∧ c.s.length ≤ 10000000) : OK 72 ([.ptr 0 0]) ([.cells (eC c)]) (.agg (eT c.next.2)) (some [.cells (eC c.next.1)]) := by
 refine aq (C := cx [(95, wI), (96, lY), (97, wK), (98, jd), (99, wG), (100, wJ), (101, wv), (103, wL), (102, wM), (104, jE)]) (ar ⟨HG, nY, HI, jV, HE, HH, Hw, HJ, HK, kH, trivial⟩) (fn := Tryz.f72) rfl rfl rfl rfl fun hw hs => ?_
 obtain ⟨hp, hl⟩ := hp
 have hbk := yf hp
 have hbs : c.cm.s = c.s := by unfold Cu.cm; split <;> rfl
 have hb : c.cm.ah.toNat < 256 := c.cm.ah.toNat_lt
 have hbb : byte c.cm.ah.toNat = c.cm.ah := c5 _
 repeat' ((conv => whnf); first | apply ak | apply aV | (apply al <;> intro h))
 all_goals try conv => whnf
 all_goals try (refine ab.mk ?_; try dsimp only)
 all_goals (try simp only [aP] at *)
 all_goals first | refine stay ?_ | trivial | (simp (discharger := omega) [-List.getD_eq_getElem?_getD, wR] <;> omega) | skip
 all_goals (try simp only [hbb] at *)
 all_goals first
  | exact ⟨trivial, hbk⟩
  | exact ⟨trivial, hbk, by rw [hbs]; omega⟩
  | exact ⟨by omega, trivial⟩
  | (exfalso; omega)
  | skip
 all_goals
  have hh : c.cm.has ∨ ¬ c.cm.has := Decidable.em _
  have sT : bJ c.cm.ah = true ↔ (c.cm.ah.toNat = 123 ∨ c.cm.ah.toNat = 125 ∨ c.cm.ah.toNat = 91 ∨ c.cm.ah.toNat = 93 ∨ c.cm.ah.toNat = 58 ∨ c.cm.ah.toNat = 44) := decide_eq_true_iff
  have dT := jK (b := c.cm.ah)
  unfold Cu.next Cu.qC
  first
  | rw [if_pos (show ¬ c.cm.has by assumption)]
  | rw [if_neg (fun q => q (show c.cm.has by assumption))]
  repeat (first | rw [if_pos (by rw [sT]; omega)] | rw [if_neg (by rw [sT]; omega)] | rw [if_pos (by rw [dT]; omega)] | rw [if_neg (by rw [dT]; omega)] | rw [if_pos (by omega)] | rw [if_neg (by omega)])
  try unfold held Cu.oY
  try rw [show (byte 116).toNat = 116 from rfl]
  refine a8.mk [] ?_ <;> (repeat' first | trivial)
def oK : Sm := fun args σ => match args, σ with
 | [.ptr 0 0], [.cells ([.str s_c, .int .i64 (.ofNat a_c), .int .i64 (.ofNat e_c), .int .i64 c_c])] => some (True ∧ ((Cu.mk s_c a_c e_c c_c).ok ∧ (Cu.mk s_c a_c e_c c_c).s.length ≤ 10000000), .agg (eT (Cu.mk s_c a_c e_c c_c).next.2), some [.cells (eC (Cu.mk s_c a_c e_c c_c).next.1)])
 | _, _ => none
theorem rH : ay 72 oK := by
 intro args sg pre x r he hp
 unfold oK at he
 split at he <;> cases he
 . rw [bZ (hp).1]; exact Fj (hp := hp.2) ..
end Go.Proofs.YtllncocibkgjkaaGreat
