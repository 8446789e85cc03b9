/-
  A part of the proof.
-/
import Derived.Test.YtipejldppicijaaGreatDoorGA
import Derived.Test.YtipejldppicijaaGreatDoorCWb
set_option linter.unusedSimpArgs false
set_option linter.unusedVariables false
set_option maxHeartbeats 4000000
namespace Go.Proofs.YtipejldppicijaaGreatDoor
open Go Go.VG
set_option maxRecDepth 100000
theorem take1 {c : Cu} (h : c.ok) : (c.bK 1 = [] → c.ao = 0) ∧ (c.bK 1 ≠ [] → 0 < (c.bK 1).length ∧ (c.bK 1).getD 0 0 = c.ao) := by
 have h1 := h.1
 have h2 := h.2
 by_cases q : c.c = 0 ∧ c.p < c.e
 . have hm : c.may 1 = true := decide_eq_true ⟨q.1, by decide, by omega⟩
   have e : c.bK 1 = [c.get] := by
    unfold Cu.bK Cu.get
    rw [if_pos hm, List.drop_eq_getElem_cons (by omega), List.getD_eq_getElem?_getD, List.getElem?_eq_getElem (by omega)]; rfl
   rw [e]
   refine ⟨fun g => (by cases g), fun _ => ⟨Nat.zero_lt_succ _, ?_⟩⟩
   unfold Cu.ao
   rw [if_pos q]; rfl
 . have hm : ¬ c.may 1 = true := fun g => by have := of_decide_eq_true g; omega
   have e : c.bK 1 = [] := by unfold Cu.bK; rw [if_neg hm]
   rw [e]
   refine ⟨fun _ => ?_, fun g => absurd rfl g⟩
   unfold Cu.ao
   rw [if_neg q]
theorem Cz (c : Cu) (hp : c.ok ∧ c.s.length ≤ 1000000000) : OK 74 ([aY c]) ([]) (.tuple [aY c.byte, bv c.ao]) (none) := by
 refine ah (C := cx [(81, mE)]) (ai ⟨pI, trivial⟩) (fn := Tryz.f74) rfl rfl rfl rfl fun hw hs => ?_
 obtain ⟨t1, t2⟩ := take1 hp.1
 repeat' ((conv => whnf); first | apply ab | (apply kM <;> intro h) | with_reducible refine gJ ?_ fun hc => ?_)
 all_goals try conv => whnf
 all_goals try (refine a7.mk ?_; try dsimp only)
 all_goals (try simp only [aU] at *)
 all_goals first | refine stay ?_ | trivial | skip
 all_goals first
  | exact hp
  | exact (t2 (by assumption)).1
  | skip
 . rw [t1 (by assumption)]
   refine a6.mk [] ?_ <;> (repeat' first | trivial)
 . have e := (t2 (by assumption)).2
   refine a6.mk [] ?_ <;> (repeat' first | trivial | apply ak | apply az | apply bT | apply bo)
   rw [show Int.toNat 0 = 0 from rfl, e]
def mD : Sm := fun args σ => match args, σ with
 | [.agg [.str s_c, .int .i64 (.ofNat a_c), .int .i64 (.ofNat e_c), .int .i64 c_c]], [] => some (True ∧ ((Cu.mk s_c a_c e_c c_c).ok ∧ (Cu.mk s_c a_c e_c c_c).s.length ≤ 1000000000), .tuple [aY (Cu.mk s_c a_c e_c c_c).byte, bv (Cu.mk s_c a_c e_c c_c).ao], none)
 | _, _ => none
theorem pH : a9 74 mD := by
 intro args sg pre x r he hp
 unfold mD at he
 split at he <;> cases he
 . rw [eF (hp).1]; exact Cz (hp := hp.2) ..
theorem CA (c : Cu) (hp : True) : OK 95 ([aY c]) ([]) (.int .i64 c.fin) (none) := by
 refine ah (C := cx []) (ai trivial) (fn := Tryz.f95) rfl rfl rfl rfl fun hw hs => ?_
 repeat' ((conv => whnf); (apply ae <;> intro h))
 all_goals try conv => whnf
 all_goals try (refine a7.mk ?_; try dsimp only)
 all_goals try refine stay ?_
 all_goals
  unfold Cu.fin
  repeat (first | rw [if_pos (by first | assumption | omega)] | rw [if_neg (by first | assumption | omega)])
  refine a6.mk [] ?_ <;> (repeat' first | trivial | apply ak | apply az)
def tU : Sm := fun args σ => match args, σ with
 | [.agg [.str s_c, .int .i64 (.ofNat a_c), .int .i64 (.ofNat e_c), .int .i64 c_c]], [] => some (True ∧ (True), .int .i64 (Cu.mk s_c a_c e_c c_c).fin, none)
 | _, _ => none
theorem EI : a9 95 tU := by
 intro args sg pre x r he hp
 unfold tU at he
 split at he <;> cases he
 . rw [eF (hp).1]; exact CA (hp := hp.2) ..
theorem CJ (q : Int) (hp : 0 ≤ q ∧ q ≤ 18446744073709551615) : OK 78 ([.int .u64 q]) ([]) (.int .i64 (db q.toNat)) (none) := by
 refine ah (C := cx []) (ai trivial) (fn := Tryz.f78) rfl rfl rfl rfl fun hw hs => ?_
 obtain ⟨u, rfl⟩ := Int.eq_ofNat_of_zero_le hp.1
 rw [Int.toNat_natCast]
 have hm : (u : Int).tmod 2 = ((u % 2 : Nat) : Int) := rfl
 have e : IntKind.u64.wrap ((u : Int).tdiv 2) = ((u / 2 : Nat) : Int) := by
  rw [show (u : Int).tdiv 2 = ((u / 2 : Nat) : Int) from rfl, cm]; omega
 have e2 : nx .u64 (if IntKind.u64.signed = true then -1 else IntKind.u64.max) ((u / 2 : Nat) : Int) = 18446744073709551615 - ((u / 2 : Nat) : Int) := by
  rw [if_neg (by decide)]
  show IntKind.u64.wrap ((BitVec.ofInt 64 18446744073709551615 ^^^ BitVec.ofInt 64 _).toNat : Int) = _
  rw [BitVec.ofInt_natCast, show BitVec.ofInt 64 18446744073709551615 = BitVec.allOnes 64 by decide, BitVec.xor_comm, BitVec.xor_allOnes, BitVec.toNat_not, BitVec.toNat_ofNat, Nat.mod_eq_of_lt (by omega), cm]
  omega
 repeat' ((conv => whnf); first | apply ab | (apply ae <;> intro h))
 all_goals try conv => whnf
 all_goals try (refine a7.mk ?_; try dsimp only)
 all_goals (try simp only [hm, e, e2] at *)
 all_goals first | refine stay ?_ | trivial | skip
 all_goals
  unfold db
  first | rw [if_pos (by omega)] | rw [if_neg (by omega)]
  refine a6.mk [] ?_ <;> (repeat' first | trivial | apply ak | apply az)
  (simp (discharger := omega) only [wR]; omega)
def qy : Sm := fun args σ => match args, σ with
 | [.int .u64 q], [] => some (0 ≤ q ∧ q ≤ 18446744073709551615, .int .i64 (db q.toNat), none)
 | _, _ => none
theorem xi : a9 78 qy := by
 intro args sg pre x r he hp
 unfold qy at he
 split at he <;> cases he
 . exact CJ (hp := hp) ..
theorem b16 {n : Nat} (h : n < 256) : (n : Int).tmod 16 = ((n % 16 : Nat) : Int) ∧ IntKind.u8.wrap ((n : Int).tdiv 16) = ((n / 16 : Nat) : Int) ∧ IntKind.i64.wrap ((n / 16 : Nat) : Int) = ((n / 16 : Nat) : Int) := by
 refine ⟨rfl, ?_, by rw [bL]; omega⟩
 rw [show (n : Int).tdiv 16 = ((n / 16 : Nat) : Int) from rfl, je]; omega
theorem AK {c : Cu} (h : c.ok) (hl : c.e = c.s.length ∧ c.s.length ≤ 1000000000) : c.aD.2.ok ∧ c.aD.2.e = c.aD.2.s.length ∧ c.aD.2.s.length ≤ 1000000000 := by
 have hd := ky h
 rw [hd.2.1, hd.2.2]; exact ⟨hd.1, hl⟩
theorem CU (c : Cu) (hp : c.ok ∧ c.e = c.s.length ∧ c.s.length ≤ 1000000000) : OK 129 ([aY c]) ([]) (.tuple [aY c.bH.2, .int .i64 c.bH.1]) (none) := by
 refine ah (C := cx [(77, kb), (76, iq)]) (ai ⟨mb, jP, trivial⟩) (fn := Tryz.f129) rfl rfl rfl rfl fun hw hs => ?_
 have hl := @p9 c
 have hf : ¬ (c.aD.2.fail 4).c = 0 := kK (by decide)
 repeat' ((conv => whnf); first | apply ab | apply ax | (apply ae <;> intro h))
 all_goals try conv => whnf
 all_goals try (refine a7.mk ?_; try dsimp only)
 all_goals (try simp only [aU] at *)
 all_goals first | refine stay ?_ | trivial | skip
 all_goals (try (exfalso; omega))
 all_goals (try (exfalso; exact absurd (by assumption) hf))
 all_goals
  have he : c.bH = c.bH := rfl
  conv at he => rhs; unfold Cu.bH
  repeat (first | rw [if_pos (by first | assumption | omega)] at he | rw [if_neg (by first | assumption | omega)] at he)
  rw [he]
  refine a6.mk [] ?_ <;> (repeat' first | trivial | apply ak | apply az | apply bT | apply bo)
  all_goals (try (simp (discharger := omega) only [wR]; omega))
def qC : Sm := fun args σ => match args, σ with
 | [.agg [.str s_c, .int .i64 (.ofNat a_c), .int .i64 (.ofNat e_c), .int .i64 c_c]], [] => some (True ∧ ((Cu.mk s_c a_c e_c c_c).ok ∧ (Cu.mk s_c a_c e_c c_c).e = (Cu.mk s_c a_c e_c c_c).s.length ∧ (Cu.mk s_c a_c e_c c_c).s.length ≤ 1000000000), .tuple [aY (Cu.mk s_c a_c e_c c_c).bH.2, .int .i64 (Cu.mk s_c a_c e_c c_c).bH.1], none)
 | _, _ => none
theorem xm : a9 129 qC := by
 intro args sg pre x r he hp
 unfold qC at he
 split at he <;> cases he
 . rw [eF (hp).1]; exact CU (hp := hp.2) ..
theorem vb {c : Cu} (h : c.ok ∧ c.e = c.s.length ∧ c.s.length ≤ 1000000000) : c.byte.ok ∧ c.byte.e = c.byte.s.length ∧ c.byte.s.length ≤ 1000000000 := by
 have hb := gp h.1 1
 refine ⟨hb.1, ?_, ?_⟩
 . show (c.pass 1).e = (c.pass 1).s.length; rw [hb.2.1, hb.2.2]; exact h.2.1
 . show (c.pass 1).s.length ≤ _; rw [hb.2.1]; exact h.2.2
theorem CO (c : Cu) (last : Int) (hp : c.ok ∧ c.e = c.s.length ∧ c.s.length ≤ 1000000000) : OK 38 ([aY c, .int .i64 last]) ([]) (.tuple [aY (c.aM last).2, .int .i64 (c.aM last).1.1, .int .u8 (c.aM last).1.2]) (none) := by
 refine ah (C := cx [(74, mD), (75, lj), (76, iq), (77, kb), (78, qy), (79, u5)]) (ai ⟨pH, nD, jP, mb, xi, EP, trivial⟩) (fn := Tryz.f38) rfl rfl rfl rfl fun hw hs => ?_
 have hb := vb hp
 have h1 := @p9 c.byte
 have h256 := c.ao.toNat_lt
 obtain ⟨a1, a2, a3⟩ := b16 h256
 repeat' ((conv => whnf); first | apply ab | apply ax | (apply ae <;> intro h))
 all_goals try conv => whnf
 all_goals try (refine a7.mk ?_; try dsimp only)
 all_goals (try simp only [a1, a2, a3, Int.toNat_natCast] at *)
 all_goals (try simp only [aU] at *)
 all_goals first | refine stay ?_ | trivial | omega | (simp (discharger := omega) [-List.getD_eq_getElem?_getD, wR] <;> omega) | skip
 all_goals first
  | exact ⟨trivial, hp.1, hp.2.2⟩
  | exact ⟨trivial, by assumption⟩
  | exact ⟨trivial, hb.1, hb.2⟩
  | exact ⟨by omega, by omega⟩
  | (exfalso; omega)
  | skip
 all_goals
  have he : c.aM last = c.aM last := rfl
  conv at he => rhs; unfold Cu.aM dj
  repeat (first | rw [if_pos (by first | assumption | omega | exact bJ.2 (by assumption) | exact ⟨bJ.2 (by assumption), bJ.2 (by assumption)⟩)] at he | rw [if_neg (by first | assumption | omega | exact fun q => absurd (bJ.1 q) (by assumption) | exact fun q => absurd (bJ.1 q.1) (by assumption) | exact fun q => absurd (bJ.1 q.2) (by assumption))] at he)
  first
  | (rw [he]
     refine a6.mk [] ?_ <;> (repeat' first | trivial)
     done)
  | skip
def qA : Sm := fun args σ => match args, σ with
 | [.agg [.str s_c, .int .i64 (.ofNat a_c), .int .i64 (.ofNat e_c), .int .i64 c_c], .int .i64 last], [] => some (True ∧ ((Cu.mk s_c a_c e_c c_c).ok ∧ (Cu.mk s_c a_c e_c c_c).e = (Cu.mk s_c a_c e_c c_c).s.length ∧ (Cu.mk s_c a_c e_c c_c).s.length ≤ 1000000000), .tuple [aY ((Cu.mk s_c a_c e_c c_c).aM last).2, .int .i64 ((Cu.mk s_c a_c e_c c_c).aM last).1.1, .int .u8 ((Cu.mk s_c a_c e_c c_c).aM last).1.2], none)
 | _, _ => none
theorem xk : a9 38 qA := by
 intro args sg pre x r he hp
 unfold qA at he
 split at he <;> cases he
 . rw [eF (hp).1]; exact CO (hp := hp.2) ..
theorem CQ (c : Cu) (hp : c.ok ∧ c.e = c.s.length ∧ c.s.length ≤ 1000000000) : OK 86 ([aY c]) ([]) (.tuple [aY c.bD.2, .int .i64 c.bD.1.1, .int .u8 c.bD.1.2]) (none) := by
 refine ah (C := cx [(74, mD), (75, lj), (76, iq), (129, qC)]) (ai ⟨pH, nD, jP, xm, trivial⟩) (fn := Tryz.f86) rfl rfl rfl rfl fun hw hs => ?_
 have hb := vb hp
 have h256 := c.ao.toNat_lt
 obtain ⟨a1, a2, a3⟩ := b16 h256
 repeat' ((conv => whnf); first | apply ab | apply ax | (apply ae <;> intro h))
 all_goals try conv => whnf
 all_goals try (refine a7.mk ?_; try dsimp only)
 all_goals (try simp only [a1, a2, a3, Int.toNat_natCast] at *)
 all_goals (try simp only [aU] at *)
 all_goals first | refine stay ?_ | trivial | (simp (discharger := omega) [-List.getD_eq_getElem?_getD, wR] <;> omega) | skip
 all_goals first
  | exact ⟨trivial, hp.1, hp.2.2⟩
  | exact ⟨trivial, by assumption⟩
  | exact ⟨trivial, hb.1, hb.2⟩
  | exact ⟨by omega, by omega⟩
  | (exfalso; omega)
  | skip
 all_goals
  have he : c.bD = c.bD := rfl
  conv at he => rhs; unfold Cu.bD
  repeat (first | rw [if_pos (by first | assumption | omega | exact bJ.2 (by assumption) | exact ⟨bJ.2 (by assumption), bJ.2 (by assumption)⟩)] at he | rw [if_neg (by first | assumption | omega | exact fun q => absurd (bJ.1 q) (by assumption) | exact fun q => absurd (bJ.1 q.1) (by assumption) | exact fun q => absurd (bJ.1 q.2) (by assumption))] at he)
  first
  | (rw [he]
     refine a6.mk [] ?_ <;> (repeat' first | trivial)
     done)
  | skip
def qB : Sm := fun args σ => match args, σ with
 | [.agg [.str s_c, .int .i64 (.ofNat a_c), .int .i64 (.ofNat e_c), .int .i64 c_c]], [] => some (True ∧ ((Cu.mk s_c a_c e_c c_c).ok ∧ (Cu.mk s_c a_c e_c c_c).e = (Cu.mk s_c a_c e_c c_c).s.length ∧ (Cu.mk s_c a_c e_c c_c).s.length ≤ 1000000000), .tuple [aY (Cu.mk s_c a_c e_c c_c).bD.2, .int .i64 (Cu.mk s_c a_c e_c c_c).bD.1.1, .int .u8 (Cu.mk s_c a_c e_c c_c).bD.1.2], none)
 | _, _ => none
theorem xl : a9 86 qB := by
 intro args sg pre x r he hp
 unfold qB at he
 split at he <;> cases he
 . rw [eF (hp).1]; exact CQ (hp := hp.2) ..
theorem AM {c : Cu} (h : ¬ c.bH.2.c = 0) : c.bH.1 = 0 := by
 unfold Cu.bH at h ⊢
 repeat' split at h
 . rw [if_pos (by assumption), if_pos (by assumption)]
 . rename_i q _; exact absurd q h
 . rw [if_neg (by assumption)]
theorem AL {c : Cu} (h : c.ok ∧ c.e = c.s.length ∧ c.s.length ≤ 1000000000) : c.bH.2.ok ∧ c.bH.2.s.length ≤ 1000000000 := by
 have hd := AK h.1 h.2
 have hf := g9 hd.1 4
 unfold Cu.bH
 repeat' split
 . exact ⟨hf.1, by show (c.aD.2.fail 4).s.length ≤ _; rw [hf.2.1]; exact hd.2.2⟩
 . exact ⟨hd.1, hd.2.2⟩
 . exact ⟨hd.1, hd.2.2⟩
theorem CR (c : Cu) (hp : c.ok ∧ c.e = c.s.length ∧ c.s.length ≤ 1000000000) : OK 84 ([aY c]) ([]) (.tuple [aY c.c8.2, .int .i64 c.c8.1.1, .int .u8 c.c8.1.2.1, .int .u8 c.c8.1.2.2]) (none) := by
 refine ah (C := cx [(74, mD), (75, lj), (76, iq), (129, qC)]) (ai ⟨pH, nD, jP, xm, trivial⟩) (fn := Tryz.f84) rfl rfl rfl rfl fun hw hs => ?_
 have hb := AL hp
 have hz := @AM c
 have h256 := c.bH.2.ao.toNat_lt
 obtain ⟨a1, a2, a3⟩ := b16 h256
 repeat' ((conv => whnf); first | apply ab | apply ax | (apply ae <;> intro h))
 all_goals try conv => whnf
 all_goals try (refine a7.mk ?_; try dsimp only)
 all_goals (try simp only [a1, a2, a3, Int.toNat_natCast] at *)
 all_goals (try simp only [aU] at *)
 all_goals first | refine stay ?_ | trivial | (simp (discharger := omega) [-List.getD_eq_getElem?_getD, wR] <;> omega) | skip
 all_goals first
  | exact ⟨trivial, hp.1, hp.2.2⟩
  | exact ⟨trivial, by assumption⟩
  | exact ⟨trivial, hb.1, hb.2⟩
  | exact ⟨by omega, by omega⟩
  | (exfalso; omega)
  | skip
 all_goals
  have he : c.c8 = c.c8 := rfl
  conv at he => rhs; unfold Cu.c8
  repeat (first | rw [if_pos (by first | assumption | omega | exact bJ.2 (by assumption) | exact ⟨bJ.2 (by assumption), bJ.2 (by assumption)⟩)] at he | rw [if_neg (by first | assumption | omega | exact fun q => absurd (bJ.1 q) (by assumption) | exact fun q => absurd (bJ.1 q.1) (by assumption) | exact fun q => absurd (bJ.1 q.2) (by assumption))] at he)
  first
  | (rw [he]
     refine a6.mk [] ?_ <;> (repeat' first | trivial)
     done)
  | skip
def u0 : Sm := fun args σ => match args, σ with
 | [.agg [.str s_c, .int .i64 (.ofNat a_c), .int .i64 (.ofNat e_c), .int .i64 c_c]], [] => some (True ∧ ((Cu.mk s_c a_c e_c c_c).ok ∧ (Cu.mk s_c a_c e_c c_c).e = (Cu.mk s_c a_c e_c c_c).s.length ∧ (Cu.mk s_c a_c e_c c_c).s.length ≤ 1000000000), .tuple [aY (Cu.mk s_c a_c e_c c_c).c8.2, .int .i64 (Cu.mk s_c a_c e_c c_c).c8.1.1, .int .u8 (Cu.mk s_c a_c e_c c_c).c8.1.2.1, .int .u8 (Cu.mk s_c a_c e_c c_c).c8.1.2.2], none)
 | _, _ => none
theorem EO : a9 84 u0 := by
 intro args sg pre x r he hp
 unfold u0 at he
 split at he <;> cases he
 . rw [eF (hp).1]; exact CR (hp := hp.2) ..
theorem D0 (k : Int) (hp : True) : OK 80 ([.int .u8 k]) ([]) (.bool (decide (9 ≤ k ∧ k ≤ 12))) (none) := by
 refine ah (C := cx []) (ai trivial) (fn := Tryz.f80) rfl rfl rfl rfl fun hw hs => ?_
 repeat' ((conv => whnf); (apply ae <;> intro h))
 all_goals try conv => whnf
 all_goals try (refine a7.mk ?_; try dsimp only)
 all_goals
  refine a6.mk [] ?_ <;> (repeat' first | trivial | apply ak | apply cQ)
  rw [Bool.eq_iff_iff]
  simp
  omega
def qE : Sm := fun args σ => match args, σ with
 | [.int .u8 k], [] => some (True, .bool (decide (9 ≤ k ∧ k ≤ 12)), none)
 | _, _ => none
theorem xp : a9 80 qE := by
 intro args sg pre x r he hp
 unfold qE at he
 split at he <;> cases he
 . exact D0 (hp := hp) ..
theorem CY (c : Cu) (hp : c.ok ∧ c.e = c.s.length ∧ c.s.length ≤ 1000000000) : OK 82 ([aY c]) ([]) (aY c.dM.2) (none) := by
 refine ah (C := cx [(77, kb), (76, iq), (81, mE)]) (ai ⟨mb, jP, pI, trivial⟩) (fn := Tryz.f82) rfl rfl rfl rfl fun hw hs => ?_
 have hd := ky hp.1
 have h1 := hd.1.1
 have h2 := hd.1.2
 have h3 := @vH c
 have hl := @p9 c
 rw [hd.2.1] at h2
 have hwl : IntKind.u64.wrap (IntKind.i64.wrap ((c.aD.2.e : Int) - c.aD.2.p)) = (c.aD.2.e : Int) - c.aD.2.p := by
  rw [show IntKind.i64.wrap ((c.aD.2.e : Int) - c.aD.2.p) = (c.aD.2.e : Int) - c.aD.2.p by rw [bL]; omega, cm]; omega
 have hd4 : c.aD.2.left = (c.aD.2.e : Int) - c.aD.2.p := rfl
 repeat' ((conv => whnf); first | apply ab | (apply ae <;> intro h))
 all_goals try conv => whnf
 all_goals try (refine a7.mk ?_; try dsimp only)
 all_goals (try simp only [hwl] at *)
 all_goals (try simp only [aU] at *)
 all_goals first | refine stay ?_ | trivial | skip
 all_goals first
  | exact ⟨trivial, hd.1, by rw [hd.2.1]; exact hp.2.2⟩
  | skip
 . have e : c.dM = ([], c.aD.2.fail 1) := by unfold Cu.dM; rw [if_pos ⟨by assumption, by omega⟩]
   rw [e]
   refine a6.mk [] ?_ <;> (repeat' first | trivial)
 . have e : c.dM.2 = c.aD.2.pass c.aD.1 := by unfold Cu.dM; rw [if_neg (by omega)]
   rw [e, show IntKind.i64.wrap (c.aD.1 : Int) = c.aD.1 by rw [bL]; omega]
   refine a6.mk [] ?_ <;> (repeat' first | trivial)
 . have e : c.dM.2 = c.aD.2.pass c.aD.1 := by unfold Cu.dM; rw [if_neg (by omega)]
   rw [e, h3 (by assumption)]
   refine a6.mk [] ?_ <;> (repeat' first | trivial)
def qD : Sm := fun args σ => match args, σ with
 | [.agg [.str s_c, .int .i64 (.ofNat a_c), .int .i64 (.ofNat e_c), .int .i64 c_c]], [] => some (True ∧ ((Cu.mk s_c a_c e_c c_c).ok ∧ (Cu.mk s_c a_c e_c c_c).e = (Cu.mk s_c a_c e_c c_c).s.length ∧ (Cu.mk s_c a_c e_c c_c).s.length ≤ 1000000000), aY (Cu.mk s_c a_c e_c c_c).dM.2, none)
 | _, _ => none
theorem xo : a9 82 qD := by
 intro args sg pre x r he hp
 unfold qD at he
 split at he <;> cases he
 . rw [eF (hp).1]; exact CY (hp := hp.2) ..
-- #name r21Value truchmanref21.Value
def ir (k : Nat) : Sm := fun args σ => match args, σ with
 | [.agg [.str s, .int .i64 (.ofNat p), .int .i64 (.ofNat e), .int .i64 cc], .int .u8 q, .int .i64 d], [] =>
   some ((⟨s, p, e, cc⟩ : Cu).ok ∧ e = s.length ∧ s.length ≤ 1000000000 ∧ d + k = 32, aY (aH k q ⟨s, p, e, cc⟩), none)
 | _, _ => none
theorem CV (k : Nat) (hv : a9 39 (ir k)) (c : Cu) (q d : Int) (hp : c.ok ∧ c.e = c.s.length ∧ c.s.length ≤ 1000000000 ∧ d + k = 32) : OK 94 ([aY c, .int .u8 q, .int .i64 d]) ([]) (aY (bq (aH k) q c)) (none) := by
 refine ah (C := cx [(74, mD), (76, iq), (39, (ir k))]) (ai ⟨pH, jP, hv, trivial⟩) (fn := Tryz.f94) rfl rfl rfl rfl fun hw hs => ?_
 have h256 := c.ao.toNat_lt
 repeat' ((conv => whnf); first | apply ab | apply ax | (apply ae <;> intro h))
 all_goals try conv => whnf
 all_goals try (refine a7.mk ?_; try dsimp only)
 all_goals (try simp only [aU] at *)
 all_goals first | refine stay ?_ | trivial | skip
 all_goals first
  | exact ⟨trivial, hp.1, hp.2.2.1⟩
  | exact hp
  | skip
 all_goals
  have he : bq (aH k) q c = bq (aH k) q c := rfl
  conv at he => rhs; unfold bq
  repeat (first | rw [if_pos (by omega)] at he | rw [if_neg (by omega)] at he)
  rw [he]
  refine a6.mk [] ?_ <;> (repeat' first | trivial)
def mF (k : Nat) : Sm := fun args σ => match args, σ with
 | [.agg [.str s_c, .int .i64 (.ofNat a_c), .int .i64 (.ofNat e_c), .int .i64 c_c], .int .u8 q, .int .i64 d], [] => some (True ∧ ((Cu.mk s_c a_c e_c c_c).ok ∧ (Cu.mk s_c a_c e_c c_c).e = (Cu.mk s_c a_c e_c c_c).s.length ∧ (Cu.mk s_c a_c e_c c_c).s.length ≤ 1000000000 ∧ d + k = 32), aY (bq (aH k) q (Cu.mk s_c a_c e_c c_c)), none)
 | _, _ => none
theorem xn (k : Nat) (hv : a9 39 (ir k)) : a9 94 (mF k) := by
 intro args sg pre x r he hp
 unfold mF at he
 split at he <;> cases he
 . rw [eF (hp).1]; exact CV (hv := hv) (hp := hp.2) ..
structure NJ (f : Cu → Cu) (n : Nat) (c : Cu) (x : Nat × Cu) : Prop where
 i : x.1 ≤ n
 k : Kd c x.2
 r : c9 f (n - x.1) x.2 = c9 f n c
theorem NJ.z {f : Cu → Cu} {n : Nat} {c : Cu} (h : c.ok) : NJ f n c (0, c) := ⟨Nat.zero_le _, Kd.rfl h, rfl⟩
theorem NJ.e {f : Cu → Cu} {n : Nat} {c d : Cu} {i : Nat} (h : NJ f n c (i, d)) (hi : ¬ (i : Int) < n ∨ d.c ≠ 0) : c9 f n c = d := by
 rw [← h.r]
 show c9 f (n - i) d = d
 have := h.i
 dsimp only at this
 rcases hi with hi | hi
 . rw [show n - i = 0 by omega]; rfl
 . exact za hi _
theorem NJ.s {f : Cu → Cu} (hf : ∀ c, c.ok → Kd c (f c)) {n : Nat} {c d : Cu} {i : Nat} (h : NJ f n c (i, d)) (hi : (i : Int) < n) (h0 : d.c = 0) : NJ f n c (i + 1, f d) := by
 refine ⟨by show i + 1 ≤ n; omega, h.k.trans (hf d h.k.1), ?_⟩
 rw [← h.r]
 show c9 f (n - (i + 1)) (f d) = c9 f (n - i) d
 obtain ⟨m, hm⟩ : ∃ m, n - i = m + 1 := ⟨n - i - 1, by omega⟩
 rw [hm, c9, if_neg (by omega), show n - (i + 1) = m by omega]
theorem D1 (k : Nat) (hv : a9 94 (mF k)) (c : Cu) (n a b d : Int) (hp : c.ok ∧ c.e = c.s.length ∧ c.s.length ≤ 1000000000 ∧ d + k = 32 ∧ 0 ≤ n) : OK 85 ([aY c, .int .i64 n, .int .u8 a, .int .u8 b, .int .i64 d]) ([]) (aY (gZ (aH k) n.toNat a b c)) (none) := by
 refine ah (C := cx [(94, (mF k))]) (ai ⟨hv, trivial⟩) (fn := Tryz.f85) rfl rfl rfl rfl fun hw hs => ?_
 obtain ⟨h1, h2, h3, h4, h5⟩ := hp
 obtain ⟨n, rfl⟩ := Int.eq_ofNat_of_zero_le h5
 rw [Int.toNat_natCast]
 have hnb : (n : Int) ≤ 9223372036854775807 := hw.2.1.2
 all_goals try conv => whnf
 all_goals try (refine a7.mk ?_; try dsimp only)
 refine c5.mk (Nat × Cu) (NJ (fun x => if b = 0 then bq (aH k) a x else bq (aH k) b (bq (aH k) a x)) n c) (fun x => ⟨33, [(1, .int .i64 n), (2, .int .u8 a), (3, .int .u8 b), (4, .int .i64 d), (5, .ptr 0 0), (10, .ptr 1 0), (11, .int .i64 x.1)], [.cells (eC x.2), .cells [.str [], .int .i64 0, .int .i64 0, .int .i64 0]], []⟩) (fun x => n - x.1) [] (0, c) (NJ.z h1) ?_ (fun ⟨i, x⟩ hI _ _ => ?_)
 . refine Go.VG.Sub.mk rfl ?_ ?_ ?_ ?_ <;> (repeat' first | trivial)
 have hi := hI.i
 obtain ⟨k1, k2, k3⟩ := hI.k
 dsimp only at hi k1 k2 k3
 have q1 : x.e = x.s.length := by rw [k2, k3]; exact h2
 have q2 : x.s.length ≤ 1000000000 := by rw [k2]; exact h3
 obtain ⟨j1, j2, j3⟩ := pd (lJ k) a x k1
 have q3 : (bq (aH k) a x).e = (bq (aH k) a x).s.length := by rw [j2, j3]; exact q1
 have q4 : (bq (aH k) a x).s.length ≤ 1000000000 := by rw [j2]; exact q2
 have hS := fun h h' => hI.s (sJ (lJ k) a b) h h'
 repeat' ((conv => whnf); first | apply ab | apply ax | (apply ae <;> intro h))
 all_goals try conv => whnf
 all_goals try (refine a7.mk ?_; try dsimp only)
 all_goals (try simp only [aU] at *)
 all_goals first | refine stay ?_ | trivial | skip
 all_goals first
  | exact ⟨trivial, k1, q1, q2, h4⟩
  | exact ⟨trivial, j1, q3, q4, h4⟩
  | skip
 . have hN := hS (by assumption) (by assumption)
   rw [if_pos (by assumption)] at hN
   refine ⟨[], (i + 1, _), hN, ?_, by show n - (i + 1) < n - i; omega⟩
   refine Go.VG.Sub.mk rfl ?_ ?_ ?_ ?_ <;> (repeat' first | trivial | apply ak | apply az)
   (simp (discharger := omega) only [wR]; omega)
 . have hN := hS (by assumption) (by assumption)
   rw [if_neg (by assumption)] at hN
   refine ⟨[], (i + 1, _), hN, ?_, by show n - (i + 1) < n - i; omega⟩
   refine Go.VG.Sub.mk rfl ?_ ?_ ?_ ?_ <;> (repeat' first | trivial | apply ak | apply az)
   (simp (discharger := omega) only [wR]; omega)
 . have he : gZ (aH k) n a b c = x := hI.e (.inr (by assumption))
   rw [he]
   refine a6.mk [] ?_ <;> (repeat' first | trivial)
 . have he : gZ (aH k) n a b c = x := hI.e (.inl (by assumption))
   rw [he]
   refine a6.mk [] ?_ <;> (repeat' first | trivial)
def oy (k : Nat) : Sm := fun args σ => match args, σ with
 | [.agg [.str s_c, .int .i64 (.ofNat a_c), .int .i64 (.ofNat e_c), .int .i64 c_c], .int .i64 n, .int .u8 a, .int .u8 b, .int .i64 d], [] => some (True ∧ ((Cu.mk s_c a_c e_c c_c).ok ∧ (Cu.mk s_c a_c e_c c_c).e = (Cu.mk s_c a_c e_c c_c).s.length ∧ (Cu.mk s_c a_c e_c c_c).s.length ≤ 1000000000 ∧ d + k = 32 ∧ 0 ≤ n), aY (gZ (aH k) n.toNat a b (Cu.mk s_c a_c e_c c_c)), none)
 | _, _ => none
theorem EU (k : Nat) (hv : a9 94 (mF k)) : a9 85 (oy k) := by
 intro args sg pre x r he hp
 unfold oy at he
 split at he <;> cases he
 . rw [eF (hp).1]; exact D1 (hv := hv) (hp := hp.2) ..
structure FJ (v : SF) (c : Cu) (x : Nat × Cu × Int) : Prop where
 i : x.1 ≤ c.e - c.p + 1
 k : Kd c x.2.1
 r : dG v x.1 x.2.1 x.2.2 = dG v (c.e - c.p + 1) c 0
theorem FJ.z {v : SF} {c : Cu} (h : c.ok) : FJ v c (c.e - c.p + 1, c, 0) := ⟨Nat.le_refl _, Kd.rfl h, rfl⟩
theorem FJ.s {v : SF} (hv : kn v) {c d : Cu} {n : Nat} {a : Int} (h : FJ v c (n + 1, d, a)) (h0 : d.c = 0) :
   ((d.aM a).1.2 = 0 → dG v (c.e - c.p + 1) c 0 = (d.aM a).2) ∧ ((d.aM a).1.2 ≠ 0 → FJ v c (n, v (d.aM a).1.2 (d.aM a).2, (d.aM a).1.1)) := by
 have h1 := h.i
 have h2 := h.k
 have hr := h.r
 dsimp only at h1 h2 hr
 rw [dG, if_neg (by omega)] at hr
 refine ⟨fun q => by rw [if_pos q] at hr; exact hr.symm, fun q => ?_⟩
 rw [if_neg q] at hr
 have hf := Kd.aC h2.1 a
 exact ⟨by show n ≤ _; omega, (h2.trans hf).trans (hv _ _ hf.1), hr⟩
theorem vC (c : Cu) (a : Int) : 0 ≤ (c.aM a).1.2 ∧ (c.aM a).1.2 ≤ 15 := by rw [(p5 c a).1]; exact rY c a
theorem CZ (k : Nat) (hv : a9 39 (ir k)) (c : Cu) (d : Int) (hp : c.ok ∧ c.e = c.s.length ∧ c.s.length ≤ 1000000000 ∧ d + k = 32) : OK 83 ([aY c, .int .i64 d]) ([]) (aY (dG (aH k) (c.e - c.p + 1) c 0)) (none) := by
 refine ah (C := cx [(38, qA), (39, (ir k))]) (ai ⟨xk, hv, trivial⟩) (fn := Tryz.f83) rfl rfl rfl rfl fun hw hs => ?_
 obtain ⟨h1, h2, h3, h4⟩ := hp
 have hpe := h1.1
 all_goals try conv => whnf
 all_goals try (refine a7.mk ?_; try dsimp only)
 refine c5.mk (Nat × Cu × Int) (FJ (aH k) c) (fun x => ⟨40, [(1, .int .i64 d), (2, .ptr 0 0), (4, .ptr 1 0), (5, .int .i64 x.2.2), (6, .int .i64 ((c.e : Int) + 1 - x.1))], [.cells (eC x.2.1), .cells [.str [], .int .i64 0, .int .i64 0, .int .i64 0]], []⟩) (fun x => x.1) [] (c.e - c.p + 1, c, 0) (FJ.z h1) ?_ (fun ⟨n, x, a⟩ hI _ _ => ?_)
 . refine Go.VG.Sub.mk rfl ?_ ?_ ?_ ?_ <;> (repeat' first | trivial | apply ak | apply az)
   show (c.p : Int) = (c.e : Int) + 1 - ((c.e - c.p + 1 : Nat) : Int)
   omega
 have hi := hI.i
 obtain ⟨k1, k2, k3⟩ := hI.k
 dsimp only at hi k1 k2 k3
 have q1 : x.e = x.s.length := by rw [k2, k3]; exact h2
 have q2 : x.s.length ≤ 1000000000 := by rw [k2]; exact h3
 obtain ⟨j1, j2, j3⟩ := Kd.aC k1 a
 have q3 : (x.aM a).2.e = (x.aM a).2.s.length := by rw [j2, j3]; exact q1
 have q4 : (x.aM a).2.s.length ≤ 1000000000 := by rw [j2]; exact q2
 have hkb := vC x a
 have hn : ¬ x.c = 0 → dG (aH k) (c.e - c.p + 1) c 0 = x := fun q => by
  rw [← hI.r]
  show dG (aH k) n x a = x
  cases n with
  | zero => rfl
  | succ n => rw [dG, if_pos q]
 have hS := fun m (hm : n = m + 1) h' => FJ.s (n := m) (lJ k) (c := c) (d := x) (a := a) (by rw [← hm]; exact hI) h'
 repeat' ((conv => whnf); first | apply ab | (apply ae <;> intro h))
 all_goals try conv => whnf
 all_goals try (refine a7.mk ?_; try dsimp only)
 all_goals (try simp only [aU] at *)
 all_goals first | refine stay ?_ | trivial | skip
 all_goals first
  | exact ⟨trivial, k1, q1, q2⟩
  | exact ⟨⟨by omega, by omega⟩, j1, q3, q4, h4⟩
  | exact ⟨j1, q3, q4, h4⟩
  | skip
 . have hz := (hS (n - 1) (by omega) (by assumption)).1 (by assumption)
   rw [hz]
   refine a6.mk [] ?_ <;> (repeat' first | trivial)
 . have hN := (hS (n - 1) (by omega) (by assumption)).2 (by assumption)
   refine ⟨[], (n - 1, _, _), hN, ?_, by show n - 1 < n; omega⟩
   refine Go.VG.Sub.mk rfl ?_ ?_ ?_ ?_ <;> (repeat' first | trivial | apply ak | apply az)
   (simp (discharger := omega) only [wR]; omega)
 . rw [hn (by assumption)]
   refine a6.mk [] ?_ <;> (repeat' first | trivial)
 . have hz : dG (aH k) (c.e - c.p + 1) c 0 = x := by
     rw [← hI.r]
     show dG (aH k) n x a = x
     obtain rfl : n = 0 := by omega
     rfl
   rw [hz]
   refine a6.mk [] ?_ <;> (repeat' first | trivial)
def ow (k : Nat) : Sm := fun args σ => match args, σ with
 | [.agg [.str s_c, .int .i64 (.ofNat a_c), .int .i64 (.ofNat e_c), .int .i64 c_c], .int .i64 d], [] => some (True ∧ ((Cu.mk s_c a_c e_c c_c).ok ∧ (Cu.mk s_c a_c e_c c_c).e = (Cu.mk s_c a_c e_c c_c).s.length ∧ (Cu.mk s_c a_c e_c c_c).s.length ≤ 1000000000 ∧ d + k = 32), aY (dG (aH k) ((Cu.mk s_c a_c e_c c_c).e - (Cu.mk s_c a_c e_c c_c).p + 1) (Cu.mk s_c a_c e_c c_c) 0), none)
 | _, _ => none
theorem ET (k : Nat) (hv : a9 39 (ir k)) : a9 83 (ow k) := by
 intro args sg pre x r he hp
 unfold ow at he
 split at he <;> cases he
 . rw [eF (hp).1]; exact CZ (hv := hv) (hp := hp.2) ..
theorem vD (c : Cu) : (0 ≤ c.bD.1.1 ∧ c.bD.1.1 ≤ 2147483647) ∧ 0 ≤ c.bD.1.2 ∧ c.bD.1.2 ≤ 15 := by rw [(p6 c).1]; exact mh c
theorem AE (c : Cu) : (0 ≤ c.c8.1.1 ∧ c.c8.1.1 ≤ 2147483647) ∧ (0 ≤ c.c8.1.2.1 ∧ c.c8.1.2.1 ≤ 15) ∧ 0 ≤ c.c8.1.2.2 ∧ c.c8.1.2.2 ≤ 15 := by rw [(vE c).1]; exact nR c
theorem CW (c : Cu) (q d : Int) (hp : c.ok ∧ c.e = c.s.length ∧ c.s.length ≤ 1000000000 ∧ d = 32) : OK 39 ([aY c, .int .u8 q, .int .i64 d]) ([]) (aY (aH 0 q c)) (none) := by
 refine ah (C := cx [(75, lj), (76, iq), (80, qE), (81, mE), (77, kb), (82, qD)]) (ai ⟨nD, jP, xp, pI, mb, xo, trivial⟩) (fn := Tryz.f39) rfl rfl rfl rfl fun hw hs => ?_
 obtain ⟨h1, h2, h3, h4⟩ := hp
 have hq : 0 ≤ q ∧ q ≤ 255 := hw.2.1
 have hqb : ((byte q).toNat : Int) = q := cq hq
 repeat' ((conv => whnf); first | apply ab | apply ax | (apply ae <;> intro h))
 all_goals try conv => whnf
 all_goals try (refine a7.mk ?_; try dsimp only)
 all_goals (try simp only [aU] at *)
 all_goals first | refine stay ?_ | trivial | omega | skip
 all_goals first
  | exact ⟨trivial, by assumption⟩
  | exact ⟨trivial, h1, h3⟩
  | exact ⟨h1, h2, h3⟩
  | exact ⟨trivial, h1, h2, h3⟩
  | exact ⟨h1, h2, h3, by rw [bL]; omega⟩
  | exact ⟨trivial, h1, h2, h3, by rw [bL]; omega⟩
  | exact ⟨trivial, l1.1, by rw [l1.2.1, l1.2.2]; exact h2, by rw [l1.2.1]; exact h3, by rw [bL]; omega, by omega⟩
  | exact ⟨trivial, m1.1, by rw [m1.2.1, m1.2.2]; exact h2, by rw [m1.2.1]; exact h3, by rw [bL]; omega, by omega⟩
  | (exfalso; omega)
  | (exfalso; have := bJ.1 (by assumption); omega)
  | skip
 all_goals
  have he : aH 0 q c = aH 0 q c := rfl
  conv at he => rhs; unfold aH jk
  repeat (first | rw [if_pos (by omega)] at he | rw [if_neg (by omega)] at he)
  rw [he]
  refine a6.mk [] ?_ <;> (repeat' first | trivial)
def zd : Sm := fun args σ => match args, σ with
 | [.agg [.str s_c, .int .i64 (.ofNat a_c), .int .i64 (.ofNat e_c), .int .i64 c_c], .int .u8 q, .int .i64 d], [] => some (True ∧ ((Cu.mk s_c a_c e_c c_c).ok ∧ (Cu.mk s_c a_c e_c c_c).e = (Cu.mk s_c a_c e_c c_c).s.length ∧ (Cu.mk s_c a_c e_c c_c).s.length ≤ 1000000000 ∧ d = 32), aY (aH 0 q (Cu.mk s_c a_c e_c c_c)), none)
 | _, _ => none
theorem ER : a9 39 zd := by
 intro args sg pre x r he hp
 unfold zd at he
 split at he <;> cases he
 . rw [eF (hp).1]; exact CW (hp := hp.2) ..
theorem CX (k : Nat) (hf : a9 83 (ow k)) (hn : a9 85 (oy k)) (c : Cu) (q d : Int) (hp : c.ok ∧ c.e = c.s.length ∧ c.s.length ≤ 1000000000 ∧ d + k + 1 = 32) : OK 39 ([aY c, .int .u8 q, .int .i64 d]) ([]) (aY (aH (k + 1) q c)) (none) := by
 refine ah (C := cx [(75, lj), (76, iq), (80, qE), (81, mE), (77, kb), (82, qD), (84, u0), (86, qB), (83, (ow k)), (85, (oy k))]) (ai ⟨nD, jP, xp, pI, mb, xo, EO, xl, hf, hn, trivial⟩) (fn := Tryz.f39) rfl rfl rfl rfl fun hw hs => ?_
 obtain ⟨h1, h2, h3, h4⟩ := hp
 have hq : 0 ≤ q ∧ q ≤ 255 := hw.2.1
 have hqb : ((byte q).toNat : Int) = q := cq hq
 have hd1 : -9223372036854775808 ≤ d := hw.2.2.1.1
 have l1 := Kd.aJ h1
 have m1 := Kd.aT h1
 have l2 := vD c
 have m2 := AE c
 repeat' ((conv => whnf); first | apply ab | apply ax | (apply ae <;> intro h))
 all_goals try conv => whnf
 all_goals try (refine a7.mk ?_; try dsimp only)
 all_goals (try simp only [aU] at *)
 all_goals first | refine stay ?_ | trivial | omega | skip
 all_goals first
  | exact ⟨trivial, by assumption⟩
  | exact ⟨trivial, h1, h3⟩
  | exact ⟨h1, h2, h3⟩
  | exact ⟨trivial, h1, h2, h3⟩
  | exact ⟨h1, h2, h3, by rw [bL]; omega⟩
  | exact ⟨trivial, h1, h2, h3, by rw [bL]; omega⟩
  | exact ⟨trivial, l1.1, by rw [l1.2.1, l1.2.2]; exact h2, by rw [l1.2.1]; exact h3, by rw [bL]; omega, by omega⟩
  | exact ⟨trivial, m1.1, by rw [m1.2.1, m1.2.2]; exact h2, by rw [m1.2.1]; exact h3, by rw [bL]; omega, by omega⟩
  | (exfalso; omega)
  | (exfalso; have := bJ.1 (by assumption); omega)
  | skip
 all_goals
  have he : aH (k + 1) q c = aH (k + 1) q c := rfl
  conv at he => rhs; unfold aH jk
  repeat (first | rw [if_pos (by omega)] at he | rw [if_neg (by omega)] at he)
  rw [he]
  refine a6.mk [] ?_ <;> (repeat' first | trivial)
def ze (k : Nat) : Sm := fun args σ => match args, σ with
 | [.agg [.str s_c, .int .i64 (.ofNat a_c), .int .i64 (.ofNat e_c), .int .i64 c_c], .int .u8 q, .int .i64 d], [] => some (True ∧ ((Cu.mk s_c a_c e_c c_c).ok ∧ (Cu.mk s_c a_c e_c c_c).e = (Cu.mk s_c a_c e_c c_c).s.length ∧ (Cu.mk s_c a_c e_c c_c).s.length ≤ 1000000000 ∧ d + k + 1 = 32), aY (aH (k + 1) q (Cu.mk s_c a_c e_c c_c)), none)
 | _, _ => none
theorem ES (k : Nat) (hf : a9 83 (ow k)) (hn : a9 85 (oy k)) : a9 39 (ze k) := by
 intro args sg pre x r he hp
 unfold ze at he
 split at he <;> cases he
 . rw [eF (hp).1]; exact CX (hf := hf) (hn := hn) (hp := hp.2) ..
theorem sn : ∀ k, a9 39 (ir k)
 | 0 => by
   intro args sg pre x r he hp
   unfold ir at he
   split at he <;> cases he
   exact ER _ _ _ _ _ rfl ⟨trivial, hp.1, hp.2.1, hp.2.2.1, by have := hp.2.2.2; omega⟩
 | k + 1 => by
   have hv := sn k
   have hi := xn k hv
   intro args sg pre x r he hp
   unfold ir at he
   split at he <;> cases he
   exact ES k (ET k hv) (EU k hi) _ _ _ _ _ rfl ⟨trivial, hp.1, hp.2.1, hp.2.2.1, by have := hp.2.2.2; omega⟩
end Go.Proofs.YtipejldppicijaaGreatDoor
