/-
  A part of the proof.
-/
import Derived.Test.YtllncocibkgjkaaDoorJNw
import Derived.Test.YtllncocibkgjkaaDoorJNd
set_option linter.unusedSimpArgs false
set_option linter.unusedVariables false
set_option maxHeartbeats 4000000
namespace Go.Proofs.YtllncocibkgjkaaDoor
open Go Go.VG
set_option maxRecDepth 100000
theorem EP (c : Cu) (hp : c.ok ∧ c.s.length ≤ 100000000) : OK 46 ([.ptr 0 0]) ([.cells (eC c)]) (.str c.num.2) (some [.cells (eC c.num.1)]) := by
 refine aI (C := cxh [(64, wj), (30, jJ)] [(2, [.cell 1 1 1])]) (aG ⟨Gx, kJ, trivial⟩) (fn := Tryd.f46) rfl rfl rfl rfl fun hw hs => ?_
 obtain ⟨hp, hl⟩ := hp
 repeat' ((conv => whnf); first | apply ai | apply aw | (apply aj <;> intro h) | apply b7)
 all_goals try conv => whnf
 all_goals try (refine a8.mk ?_; try dsimp only)
 all_goals (try simp only [bJ] at *)
 all_goals first | refine stay ?_ | trivial | skip
 . unfold Cu.num
   rw [if_pos (by assumption)]
   refine ab.mk [] ?_ <;> (repeat' first | trivial)
 . unfold Cu.num
   rw [if_neg (by assumption)]
   refine ab.mk [] ?_ <;> (repeat' first | trivial)
def wk : Sm := fun args σ => match args, σ with
 | [.ptr 0 0], [.cells ([.str s_c, .int .i64 (.ofNat a_c), .int .i64 (.ofNat e_c), .int .i64 c_c])] => some (True ∧ ((Cu.mk s_c a_c e_c c_c).ok ∧ (Cu.mk s_c a_c e_c c_c).s.length ≤ 100000000), .str (Cu.mk s_c a_c e_c c_c).num.2, some [.cells (eC (Cu.mk s_c a_c e_c c_c).num.1)])
 | _, _ => none
theorem Gy : aE 46 wk := by
 intro args sg pre x r he hp
 unfold wk at he
 split at he <;> cases he
 . rw [cR (hp).1]; exact EP (hp := hp.2) ..
theorem CV {c : Cu} (hk : c.ok) (h : c.has) (hb : dS c.af = true) : c.byte.cK = c.cK := by
 obtain ⟨b1, b2⟩ := fJ h.1 h.2
 have hl := gj hk
 have hp : c.p < c.a9.length := by have := h.2; omega
 rw [b2] at hb
 unfold Cu.cK
 rw [b1, if_pos (show ({ c with p := c.p + 1 } : Cu).c = 0 from h.1), if_pos h.1]
 have e : Cu.a9 { c with p := c.p + 1 } = c.a9 := rfl
 rw [e, Bt hp hb]
theorem xS {c : Cu} (hk : c.ok) (h : ¬ c.has ∨ dS c.af = false) : c.cK = c := by
 have hl := gj hk
 unfold Cu.cK
 by_cases h0 : c.c = 0
 . rw [if_pos h0]
   have : eE dS c.a9 c.p = c.p := by
    by_cases hp : c.p < c.e
    . obtain ⟨_, b2⟩ := fJ h0 hp
      rcases h with h | h
      . exact absurd ⟨h0, hp⟩ h
      . rw [b2] at h; exact qy (.inr h)
    . exact qy (.inl (by have := hk.1; omega))
   rw [this]
 . rw [if_neg h0]
theorem xT {b : UInt8} : dS b = true ↔ b.toNat = 32 ∨ b.toNat = 9 ∨ b.toNat = 10 ∨ b.toNat = 13 := by simp [dS]
theorem tO {b : UInt8} : dS b = false ↔ ¬ (b.toNat = 32 ∨ b.toNat = 9 ∨ b.toNat = 10 ∨ b.toNat = 13) := by rw [← xT, Bool.not_eq_true]
theorem F2 (c : Cu) (hp : c.ok) : OK 40 ([.ptr 0 0]) ([.cells (eC c)]) (.tuple []) (some [.cells (eC c.cK)]) := by
 refine aI (C := cx [(41, mb), (43, jq)]) (aG ⟨ot, jX, trivial⟩) (fn := Tryd.f40) rfl rfl rfl rfl fun hw hs => ?_
 refine cB.mk Cu (fun d => d.ok ∧ d.cK = c.cK) (fun d => ⟨29, [(0, .ptr 0 0)], [.cells (eC d)], []⟩) (fun d => d.e - d.p) [] c ⟨hp, rfl⟩ ?_ (fun d ⟨hd, he⟩ _ _ => ?_)
 . refine Go.VG.Sub.mk rfl ?_ ?_ ?_ ?_ <;> (repeat' first | trivial)
 have hb : d.af.toNat < 256 := d.af.toNat_lt
 have hbo := kd hd 1
 have hbk : d.byte.ok := hbo.1
 repeat' ((conv => whnf); first | apply ai | apply aw | (apply aj <;> intro h))
 all_goals try conv => whnf
 all_goals try (refine a8.mk ?_; try dsimp only)
 all_goals (try simp only [bJ] at *)
 all_goals first | refine stay ?_ | trivial | skip
 all_goals first
  | (have hh : d.has := by assumption
     have hx := CV hd hh (xT.2 (by omega))
     have hy := (fJ hh.1 hh.2).1
     refine ⟨[], d.byte, ⟨hbk, hx.trans he⟩, ?_, by have := hh.2; rw [hy]; show d.e - (d.p + 1) < d.e - d.p; omega⟩
     refine Go.VG.Sub.mk rfl ?_ ?_ ?_ ?_ <;> (repeat' first | trivial)
     )
  | (have hx := xS hd (.inl (by assumption))
     rw [← he, hx]
     refine ab.mk [] ?_ <;> (repeat' first | trivial)
     )
  | (have hx := xS hd (.inr (tO.2 (by omega)))
     rw [← he, hx]
     refine ab.mk [] ?_ <;> (repeat' first | trivial)
     )
  | skip
def wD : Sm := fun args σ => match args, σ with
 | [.ptr 0 0], [.cells ([.str s_c, .int .i64 (.ofNat a_c), .int .i64 (.ofNat e_c), .int .i64 c_c])] => some (True ∧ ((Cu.mk s_c a_c e_c c_c).ok), .tuple [], some [.cells (eC (Cu.mk s_c a_c e_c c_c).cK)])
 | _, _ => none
theorem GJ : aE 40 wD := by
 intro args sg pre x r he hp
 unfold wD at he
 split at he <;> cases he
 . rw [cR (hp).1]; exact F2 (hp := hp.2) ..
theorem F5 (b : UInt8) (hp : True) : OK 42 ([bv b, .list true 1 [.int .u8 123, .int .u8 125, .int .u8 91, .int .u8 93, .int .u8 58, .int .u8 44]]) ([]) (.bool (fh b)) (none) := by
 refine aI (C := cx []) (aG trivial) (fn := Tryd.f42) rfl rfl rfl rfl fun hw hs => ?_
 have hb : b.toNat < 256 := b.toNat_lt
 have hl : ([123, 125, 91, 93, 58, 44] : List UInt8).length = 6 := rfl
 refine cB.mk Nat (fun i => i ≤ 6 ∧ ∀ j, j < i → ([123, 125, 91, 93, 58, 44] : List UInt8).getD j 0 ≠ b) (fun i => ⟨17, [(0, bv b), (7, .list true 1 (bl [123, 125, 91, 93, 58, 44])), (8, .int .i64 6), (9, .int .i64 i)], [], []⟩) (fun i => 6 - i) [] 0 ⟨by omega, fun j hj => absurd hj (by omega)⟩ ?_ (fun i ⟨hi, hj⟩ _ _ => ?_)
 . refine Go.VG.Sub.mk rfl ?_ ?_ ?_ ?_ <;> (repeat' first | trivial)
 have hx : (([123, 125, 91, 93, 58, 44] : List UInt8).getD i 0).toNat < 256 := UInt8.toNat_lt _
 have hin : ∀ j, j < 6 → fh (([123, 125, 91, 93, 58, 44] : List UInt8).getD j 0) = true := by decide
 have hno : i = 6 → fh b = false := fun e => by
  cases q : fh b with
  | false => rfl
  | true =>
    have h : ∀ n : Nat, n < 256 → fh (.ofNat n) = true → ∃ j, j < 6 ∧ ([123, 125, 91, 93, 58, 44] : List UInt8).getD j 0 = .ofNat n := by decide +kernel
    obtain ⟨j, h1, h2⟩ := h b.toNat hb (by rw [UInt8.ofNat_toNat]; exact q)
    rw [UInt8.ofNat_toNat] at h2
    exact absurd h2 (hj j (by omega))
 repeat' ((conv => whnf); first | apply ai | (apply aj <;> intro h) | with_reducible refine bn ?_ fun hc => ?_)
 all_goals try conv => whnf
 all_goals try (refine a8.mk ?_; try dsimp only)
 all_goals (try simp only [bJ] at *)
 all_goals first | refine stay ?_ | omega | skip
 . have e : ([123, 125, 91, 93, 58, 44] : List UInt8).getD i 0 = b := UInt8.toNat_inj.1 (by omega)
   have := hin i (by omega)
   rw [e] at this
   rw [this]
   refine ab.mk [] ?_ <;> (repeat' first | trivial)
 . refine ⟨[], i + 1, ⟨by omega, fun j hjj => ?_⟩, ?_, by omega⟩
   . by_cases e : j = i
     . subst e; intro e; have := congrArg UInt8.toNat e; omega
     . exact hj j (by omega)
   . refine Go.VG.Sub.mk rfl ?_ ?_ ?_ ?_ <;> (repeat' first | trivial | apply aa | apply ar)
     all_goals (simp (discharger := omega) only [wR]; omega)
 . rw [hno (by omega)]
   refine ab.mk [] ?_ <;> (repeat' first | trivial)
def qK : Sm := fun args σ => match args, σ with
 | [.int .u8 n_b, .list true 1 [.int .u8 123, .int .u8 125, .int .u8 91, .int .u8 93, .int .u8 58, .int .u8 44]], [] => some ((0 ≤ n_b ∧ n_b ≤ 255) ∧ (True), .bool (fh (byte n_b)), none)
 | _, _ => none
theorem uH : aE 42 qK := by
 intro args sg pre x r he hp
 unfold qK at he
 split at he <;> cases he
 . rw [gI (hp).1]; exact F5 (hp := hp.2) ..
theorem F8 (k : UInt8) (hp : True) : OK 48 ([bv k]) ([]) (.str (spell k)) (none) := by
 refine aI (C := cx []) (aG trivial) (fn := Tryd.f48) rfl rfl rfl rfl fun hw hs => ?_
 have hb : k.toNat < 256 := k.toNat_lt
 repeat' ((conv => whnf); (apply aj <;> intro h))
 all_goals try conv => whnf
 all_goals try (refine a8.mk ?_; try dsimp only)
 all_goals (try simp only [bJ] at *)
 all_goals try refine stay ?_
 all_goals
  unfold spell
  repeat (first | rw [if_pos (by omega)] | rw [if_neg (by omega)])
  refine ab.mk [] ?_ <;> (repeat' first | trivial)
def qL : Sm := fun args σ => match args, σ with
 | [.int .u8 n_k], [] => some ((0 ≤ n_k ∧ n_k ≤ 255) ∧ (True), .str (spell (byte n_k)), none)
 | _, _ => none
theorem uI : aE 48 qL := by
 intro args sg pre x r he hp
 unfold qL at he
 split at he <;> cases he
 . rw [gI (hp).1]; exact F8 (hp := hp.2) ..
abbrev eT (t : Tk) : List V := [.int .u8 t.k.toNat, .str t.t]
theorem F3 (c : Cu) (k : UInt8) (t : List UInt8) (hp : True) : OK 45 ([.ptr 0 0, .agg [bv k, .str t]]) ([.cells (eC c)]) (.agg (eT (if c.c = 0 then ⟨k, t⟩ else .no))) (none) := by
 refine aI (C := cx [(30, jJ)]) (aG ⟨kJ, trivial⟩) (fn := Tryd.f45) rfl rfl rfl rfl fun hw hs => ?_
 have hb : k.toNat < 256 := k.toNat_lt
 have hbb : byte k.toNat = k := dx _
 repeat' ((conv => whnf); first | apply ai | apply aw | (apply aj <;> intro h))
 all_goals try conv => whnf
 all_goals try (refine a8.mk ?_; try dsimp only)
 all_goals (try simp only [bJ] at *)
 all_goals first | refine stay ?_ | trivial | skip
 all_goals
  first | rw [if_pos (by assumption)] | rw [if_neg (by assumption)]
  refine ab.mk [] ?_ <;> (repeat' first | trivial)
def wE : Sm := fun args σ => match args, σ with
 | [.ptr 0 0, .agg [.int .u8 n_k, .str t]], [.cells ([.str s_c, .int .i64 (.ofNat a_c), .int .i64 (.ofNat e_c), .int .i64 c_c])] => some ((0 ≤ n_k ∧ n_k ≤ 255) ∧ (True ∧ (True)), .agg (eT (if (Cu.mk s_c a_c e_c c_c).c = 0 then ⟨(byte n_k), t⟩ else .no)), none)
 | _, _ => none
theorem GK : aE 45 wE := by
 intro args sg pre x r he hp
 unfold wE at he
 split at he <;> cases he
 . rw [gI (hp).1]; rw [cR (hp.2).1]; exact F3 (hp := hp.2.2) ..
theorem CB (b : UInt8) (s : List UInt8) (c : Cu) : c.word (b :: s) = if c.af ≠ b then (c.byte.fail 3, false) else c.byte.word s := rfl
theorem KB (c : Cu) : c.word [] = (c, true) := rfl
theorem F9 (c : Cu) (k : UInt8) (t : List UInt8) (hp : c.ok ∧ t.length ≤ 100) : OK 47 ([.ptr 0 0, bv k, .str t]) ([.cells (eC c)]) (.agg (eT (if (c.word t).2 = true then ⟨k, []⟩ else .no))) (some [.cells (eC (c.word t).1)]) := by
 refine aI (C := cx [(43, jq), (49, jK)]) (aG ⟨jX, kK, trivial⟩) (fn := Tryd.f47) rfl rfl rfl rfl fun hw hs => ?_
 obtain ⟨hp, hl⟩ := hp
 have hk : k.toNat < 256 := k.toNat_lt
 have hkk : byte k.toNat = k := dx _
 all_goals try conv => whnf
 all_goals try (refine a8.mk ?_; try dsimp only)
 all_goals try refine stay ?_
 refine cB.mk (Nat × Cu) (fun | (i, d) => i ≤ t.length ∧ d.ok ∧ d.word (t.drop i) = c.word t) (fun | (i, d) => ⟨25, [(0, .ptr 0 0), (1, bv k), (2, .str t), (6, .ptr 1 0), (9, .int .i64 t.length), (10, .int .i64 i)], [.cells (eC d), .cells [.int .u8 0, .str []]], []⟩) (fun x => t.length - x.1) [] (0, c) ⟨by omega, hp, rfl⟩ ?_ (fun ⟨i, d⟩ ⟨hi, hd, he⟩ _ _ => ?_)
 . refine Go.VG.Sub.mk rfl ?_ ?_ ?_ ?_ <;> (repeat' first | trivial)
 have hb : d.af.toNat < 256 := d.af.toNat_lt
 have hx : (t.getD i 0).toNat < 256 := UInt8.toNat_lt _
 have hbo := (kd hd 1).1
 have hdr : i < t.length → t.drop i = t.getD i 0 :: t.drop (i + 1) := fun h => by
  rw [List.drop_eq_getElem_cons h, List.getD_eq_getElem?_getD, List.getElem?_eq_getElem h]; rfl
 repeat' ((conv => whnf); first | apply ai | apply aw | (apply aj <;> intro h) | with_reducible refine aY ?_ fun hc => ?_)
 all_goals try conv => whnf
 all_goals try (refine a8.mk ?_; try dsimp only)
 all_goals (try simp only [bJ] at *)
 all_goals first | refine stay ?_ | trivial | omega | skip
 . rw [hdr (by omega), CB, if_neg (fun e => e (UInt8.toNat_inj.1 (by omega)))] at he
   refine ⟨[], (i + 1, d.byte), ⟨by omega, hbo, he⟩, ?_, by show t.length - (i + 1) < t.length - i; omega⟩
   refine Go.VG.Sub.mk rfl ?_ ?_ ?_ ?_ <;> (repeat' first | trivial | apply aa | apply ar)
   all_goals (simp (discharger := omega) only [wR]; omega)
 . rw [hdr (by omega), CB, if_pos (fun e => by have := congrArg UInt8.toNat e; omega)] at he
   rw [← he]
   refine ab.mk [] ?_ <;> (repeat' first | trivial)
 . rw [List.drop_eq_nil_of_le (by omega), KB] at he
   rw [← he]
   refine ab.mk [] ?_ <;> (repeat' first | trivial)
def wG : Sm := fun args σ => match args, σ with
 | [.ptr 0 0, .int .u8 n_k, .str t], [.cells ([.str s_c, .int .i64 (.ofNat a_c), .int .i64 (.ofNat e_c), .int .i64 c_c])] => some ((0 ≤ n_k ∧ n_k ≤ 255) ∧ (True ∧ ((Cu.mk s_c a_c e_c c_c).ok ∧ t.length ≤ 100)), .agg (eT (if ((Cu.mk s_c a_c e_c c_c).word t).2 = true then ⟨(byte n_k), []⟩ else .no)), some [.cells (eC ((Cu.mk s_c a_c e_c c_c).word t).1)])
 | _, _ => none
theorem GM : aE 47 wG := by
 intro args sg pre x r he hp
 unfold wG at he
 split at he <;> cases he
 . rw [gI (hp).1]; rw [cR (hp.2).1]; exact F9 (hp := hp.2.2) ..
theorem F4 (c : Cu) (hp : c.ok ∧ c.s.length ≤ 10000000) : OK 29 ([.ptr 0 0]) ([.cells (eC c)]) (.agg (eT c.next.2)) (some [.cells (eC c.next.1)]) := by
 refine aI (C := cx [(40, wD), (41, mb), (42, qK), (43, jq), (44, wz), (45, wE), (46, wk), (48, qL), (47, wG), (49, jK)]) (aG ⟨GJ, ot, uH, jX, GH, GK, Gy, uI, GM, kK, trivial⟩) (fn := Tryd.f29) rfl rfl rfl rfl fun hw hs => ?_
 obtain ⟨hp, hl⟩ := hp
 have hbk := xR hp
 have hbs : c.cK.s = c.s := by unfold Cu.cK; split <;> rfl
 have hb : c.cK.af.toNat < 256 := c.cK.af.toNat_lt
 have hbb : byte c.cK.af.toNat = c.cK.af := dx _
 repeat' ((conv => whnf); first | apply ai | apply aw | (apply aj <;> intro h))
 all_goals try conv => whnf
 all_goals try (refine a8.mk ?_; try dsimp only)
 all_goals (try simp only [bJ] at *)
 all_goals first | refine stay ?_ | trivial | (simp (discharger := omega) [-List.getD_eq_getElem?_getD, wR] <;> omega) | skip
 all_goals (try simp only [hbb] at *)
 all_goals first
  | exact ⟨trivial, hbk⟩
  | exact ⟨trivial, hbk, by rw [hbs]; omega⟩
  | exact ⟨by omega, trivial⟩
  | (exfalso; omega)
  | skip
 all_goals
  have hh : c.cK.has ∨ ¬ c.cK.has := Decidable.em _
  have sT : fh c.cK.af = true ↔ (c.cK.af.toNat = 123 ∨ c.cK.af.toNat = 125 ∨ c.cK.af.toNat = 91 ∨ c.cK.af.toNat = 93 ∨ c.cK.af.toNat = 58 ∨ c.cK.af.toNat = 44) := decide_eq_true_iff
  have dT := kx (b := c.cK.af)
  unfold Cu.next Cu.qP
  first
  | rw [if_pos (show ¬ c.cK.has by assumption)]
  | rw [if_neg (fun q => q (show c.cK.has by assumption))]
  repeat (first | rw [if_pos (by rw [sT]; omega)] | rw [if_neg (by rw [sT]; omega)] | rw [if_pos (by rw [dT]; omega)] | rw [if_neg (by rw [dT]; omega)] | rw [if_pos (by omega)] | rw [if_neg (by omega)])
  try unfold held Cu.oX
  try rw [show (byte 116).toNat = 116 from rfl]
  refine ab.mk [] ?_ <;> (repeat' first | trivial)
def oQ : Sm := fun args σ => match args, σ with
 | [.ptr 0 0], [.cells ([.str s_c, .int .i64 (.ofNat a_c), .int .i64 (.ofNat e_c), .int .i64 c_c])] => some (True ∧ ((Cu.mk s_c a_c e_c c_c).ok ∧ (Cu.mk s_c a_c e_c c_c).s.length ≤ 10000000), .agg (eT (Cu.mk s_c a_c e_c c_c).next.2), some [.cells (eC (Cu.mk s_c a_c e_c c_c).next.1)])
 | _, _ => none
theorem rX : aE 29 oQ := by
 intro args sg pre x r he hp
 unfold oQ at he
 split at he <;> cases he
 . rw [cR (hp).1]; exact F4 (hp := hp.2) ..
end Go.Proofs.YtllncocibkgjkaaDoor
