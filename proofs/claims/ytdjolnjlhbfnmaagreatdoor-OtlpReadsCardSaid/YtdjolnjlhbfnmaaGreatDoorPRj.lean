/-
  A part of the proof.
-/
import Derived.Test.YtdjolnjlhbfnmaaGreatDoorPRf
set_option linter.unusedSimpArgs false
set_option linter.unusedVariables false
set_option maxHeartbeats 4000000
namespace Go.Proofs.YtdjolnjlhbfnmaaGreatDoor
open Go Go.VG
set_option maxRecDepth 100000
def nv (n w : Int) : Nat := (8 * n + w).toNat
def cN (n w : Int) : List UInt8 := if bD n w = true then cm (nv n w) else []
theorem rS {n w : Int} (h : bD n w = true) : (1 ≤ n ∧ n ≤ 536870911) ∧ (w = 0 ∨ w = 1 ∨ w = 2 ∨ w = 5) := of_decide_eq_true h
theorem EK {n w : Int} (h : bD n w = true) : mN .u64 (kH .u64 (IntKind.u64.wrap n) 3) (IntKind.u64.wrap w) = (nv n w : Nat) := by
 have hb := rS h
 obtain ⟨a, rfl⟩ := Int.eq_ofNat_of_zero_le (show 0 ≤ n by omega)
 obtain ⟨b, rfl⟩ := Int.eq_ofNat_of_zero_le (show 0 ≤ w by omega)
 rw [show IntKind.u64.wrap (a : Int) = (a : Int) by rw [db]; omega, show IntKind.u64.wrap (b : Int) = (b : Int) by rw [db]; omega]
 have e1 : kH .u64 (a : Int) 3 = ((a * 2 ^ 3 : Nat) : Int) := by
  show IntKind.u64.wrap ((a : Int) * 2 ^ 3) = _
  rw [db]; omega
 rw [e1]
 show IntKind.u64.wrap ((BitVec.ofInt 64 ((a * 2 ^ 3 : Nat) : Int) ||| BitVec.ofInt 64 (b : Int)).toNat : Int) = _
 rw [BitVec.ofInt_natCast, BitVec.ofInt_natCast, BitVec.toNat_or, BitVec.toNat_ofNat, BitVec.toNat_ofNat, Nat.mod_eq_of_lt (by omega), Nat.mod_eq_of_lt (by omega), db]
 have e2 := Nat.shiftLeft_add_eq_or_of_lt (i := 3) (b := b) (by omega) a
 rw [Nat.shiftLeft_eq] at e2
 rw [← e2]
 unfold nv
 omega
theorem zK {n w : Int} (h : bD n w = true) : nv n w ≤ 4294967295 := by
 have hb := rS h
 unfold nv; omega
theorem qD (n w : Int) : (cN n w).length ≤ 10 := by
 unfold cN
 split
 . rename_i h
   have := zK h
   exact (iZ (by omega)).2
 . simp
theorem J7 (l : List V) (n w : Int) (hp : l.length ≤ 1900000000) : OK 183 ([.buf 0, .agg [.int .i64 n, .int .i64 w]]) ([.buf 1 0 l]) (.buf 1) (some [.buf 1 0 l, .buf 1 0 (l ++ bl (cN n w))]) := by
 refine al (C := cx [(44, ju), (182, oM)]) (aq ⟨kK, rE, trivial⟩) (fn := Tryz.f183) rfl rfl rfl rfl fun hw hs => ?_
 have h1 := @EK n w
 have h2 := @zK n w
 repeat' ((conv => whnf); first | apply aj | apply aO | (apply aw <;> intro h))
 all_goals try conv => whnf
 all_goals try (refine ae.mk ?_; try dsimp only)
 all_goals first | refine stay ?_ | trivial | (simp only [cL]; omega) | (simp (discharger := omega) [-List.getD_eq_getElem?_getD, wR] <;> omega) | skip
 . have hm : bD n w = true := decide_eq_true (by assumption)
   rw [h1 hm]
   have h2 := h2 hm
   refine ⟨⟨?_, ?_⟩, ?_⟩ <;> omega
 . have hm : bD n w = true := decide_eq_true (by assumption)
   rw [h1 hm]
   unfold cN
   rw [if_pos hm]
   refine af.mk [.swap 1 2] ?_ <;> (repeat' first | trivial)
 . have hm : bD n w = false := decide_eq_false (by assumption)
   unfold cN
   rw [hm, if_neg Bool.false_ne_true]
   refine af.mk [.swap 1 2] ?_ <;> (repeat' first | trivial | apply ax | apply bo)
   simp [bl]
theorem J8 (c : Bool) (l : List V) (n w : Int) (hp : l.length ≤ 1900000000) : OK 183 ([.list c 1 l, .agg [.int .i64 n, .int .i64 w]]) ([]) (.buf 0) (some [.buf 1 0 (l ++ bl (cN n w))]) := by
 refine al (C := cx [(44, ju), (182, oM)]) (aq ⟨kK, rE, trivial⟩) (fn := Tryz.f183) rfl rfl rfl rfl fun hw hs => ?_
 have h1 := @EK n w
 have h2 := @zK n w
 repeat' ((conv => whnf); first | apply aj | apply aO | (apply aw <;> intro h))
 all_goals try conv => whnf
 all_goals try (refine ae.mk ?_; try dsimp only)
 all_goals first | refine stay ?_ | trivial | (simp only [cL]; omega) | (simp (discharger := omega) [-List.getD_eq_getElem?_getD, wR] <;> omega) | skip
 . have hm : bD n w = true := decide_eq_true (by assumption)
   rw [h1 hm]
   have h2 := h2 hm
   refine ⟨⟨?_, ?_⟩, ?_⟩ <;> omega
 . have hm : bD n w = true := decide_eq_true (by assumption)
   rw [h1 hm]
   unfold cN
   rw [if_pos hm]
   refine af.mk [.swap 0 1] ?_ <;> (repeat' first | trivial)
 . have hm : bD n w = false := decide_eq_false (by assumption)
   unfold cN
   rw [hm, if_neg Bool.false_ne_true]
   refine af.mk [.tm 4 1, .swap 0 1] ?_ <;> (repeat' first | trivial | apply ax | apply bo)
   simp [bl]
def sI : Sm := fun args σ => match args, σ with
 | [.buf 0, .agg [.int .i64 n, .int .i64 w]], [.buf 1 0 l] => some (l.length ≤ 1900000000, .buf 1, some [.buf 1 0 l, .buf 1 0 (l ++ bl (cN n w))])
 | [.list c 1 l, .agg [.int .i64 n, .int .i64 w]], [] => some (l.length ≤ 1900000000, .buf 0, some [.buf 1 0 (l ++ bl (cN n w))])
 | _, _ => none
theorem wQ : au 183 sI := by
 intro args sg pre x r he hp
 unfold sI at he
 split at he <;> cases he
 . exact J7 (hp := hp) ..
 . exact J8 (hp := hp) ..
def nC (f : Nat → Nat) (u : Nat) : Prop := u < 2 ^ f u ∧ (0 < u → 1 ≤ f u ∧ 2 ^ (f u - 1) ≤ u)
theorem Aw : ∀ u, u < 256 → u < 2 ^ (len8.getD u 0).toNat ∧ (0 < u → 1 ≤ (len8.getD u 0).toNat ∧ 2 ^ ((len8.getD u 0).toNat - 1) ≤ u) := by decide +kernel
theorem vO {f : Nat → Nat} {u N : Nat} (hq : nC f (u / 2 ^ N)) (hu : u ≥ 2 ^ N) : u < 2 ^ (N + f (u / 2 ^ N)) ∧ (0 < u → 1 ≤ N + f (u / 2 ^ N) ∧ 2 ^ (N + f (u / 2 ^ N) - 1) ≤ u) := by
 have hN : 0 < 2 ^ N := Nat.pow_pos (by decide)
 have h1 : 0 < u / 2 ^ N := Nat.div_pos hu hN
 obtain ⟨q1, q2⟩ := hq
 obtain ⟨q2, q3⟩ := q2 h1
 refine ⟨?_, fun _ => ⟨by omega, ?_⟩⟩
 . rw [Nat.pow_add, Nat.mul_comm]
   exact (Nat.div_lt_iff_lt_mul hN).mp q1
 . rw [show N + f (u / 2 ^ N) - 1 = N + (f (u / 2 ^ N) - 1) by omega, Nat.pow_add, Nat.mul_comm]
   exact Nat.le_trans (Nat.mul_le_mul_right _ q3) (Nat.div_mul_le_self u _)
theorem Au {u : Nat} (h : u < 65536) : nC mU u := by
 unfold nC mU
 split
 . exact vO (f := fun u => (len8.getD u 0).toNat) (N := 8) (Aw (u / 2 ^ 8) (by omega)) (by omega)
 . exact Aw u (by omega)
theorem Av {u : Nat} (h : u < 4294967296) : nC mV u := by
 unfold nC mV
 split
 . exact vO (f := mU) (N := 16) (Au (by omega)) (by omega)
 . exact Au (by omega)
theorem Fy {u : Nat} (h : u ≤ 18446744073709551615) : nC jO u := by
 unfold nC jO
 split
 . exact vO (f := mV) (N := 32) (Av (by omega)) (by omega)
 . exact Av (by omega)
theorem zR : ∀ (n u : Nat), u < 128 ^ (n + 1) → (n = 0 ∨ 128 ^ n ≤ u) → (cm u).length = n + 1
 | 0, u, h, _ => by rw [sO (by omega)]; rfl
 | n + 1, u, h, h2 => by
   have h3 : 128 ^ (n + 1) ≤ u := h2.resolve_left (by omega)
   have hp : 1 ≤ 128 ^ n := Nat.pow_pos (by decide)
   rw [Nat.pow_succ] at h h3
   rw [vo (by omega), List.length_cons, zR n (u / 128) (by omega) (.inr (by omega))]
theorem Eo {u : Nat} (h : u ≤ 18446744073709551615) : u < 128 ^ (i6 u - 1 + 1) ∧ (i6 u - 1 = 0 ∨ 128 ^ (i6 u - 1) ≤ u) := by
 obtain ⟨h1, h2⟩ := Fy h
 have hs := su u
 have hsz : i6 u = ((max (jO u) 1) + 6) / 7 := rfl
 have h0 : u = 0 → jO u = 0 := fun q => by rw [q]; rfl
 generalize i6 u = m at *
 generalize jO u = L at *
 rw [show m - 1 + 1 = m by omega]
 constructor
 . rw [show 128 = 2 ^ 7 from rfl, ← Nat.pow_mul]
   exact Nat.lt_of_lt_of_le h1 (Nat.pow_le_pow_right (by decide) (by omega))
 . by_cases hm : m - 1 = 0
   . exact .inl hm
   . right
     have hu : 0 < u := by
      rcases Nat.eq_zero_or_pos u with q | q
      . have := h0 q
        omega
      . exact q
     rw [show 128 = 2 ^ 7 from rfl, ← Nat.pow_mul]
     exact Nat.le_trans (Nat.pow_le_pow_right (by decide) (by omega)) (h2 hu).2
theorem xX {u : Nat} (h : u ≤ 18446744073709551615) : i6 u = (cm u).length := by
 have hb := Eo h
 have hs := su u
 rw [zR (i6 u - 1) u hb.1 hb.2]
 omega
theorem OR {n w : Int} (h : bD n w = true) : i6 (8 * n).toNat = (cm (nv n w)).length := by
 have hb := rS h
 obtain ⟨a, rfl⟩ := Int.eq_ofNat_of_zero_le (show 0 ≤ n by omega)
 have e1 : (8 * (a : Int)).toNat = 8 * a := by omega
 have e2 : nv a w = 8 * a + w.toNat := by unfold nv; omega
 have hw : w.toNat ≤ 7 := by omega
 rw [e1, e2]
 generalize w.toNat = b at *
 have hs := su (8 * a)
 have hx := Eo (u := 8 * a) (by omega)
 generalize i6 (8 * a) = m at *
 obtain ⟨k, rfl⟩ : ∃ k, m = k + 1 := ⟨m - 1, by omega⟩
 rw [show k + 1 - 1 = k by omega] at hx
 rw [zR k (8 * a + b) ?_ ?_]
 . have h1 := hx.1
   rw [Nat.pow_succ] at h1 ⊢
   omega
 . rcases hx.2 with q | q
   . exact .inl q
   . exact .inr (by omega)
def qX (f : Pf) : List UInt8 := if f.wi = 1 then low 8 f.num.toNat else if f.wi = 5 then low 4 f.num.toNat else if f.wi = 2 then cm f.text.length ++ f.text else cm f.num.toNat
def dy (f : Pf) : List UInt8 := if bD f.no f.wi = true then cN f.no f.wi ++ qX f else []
theorem CV : ∀ (k u : Nat), low k (u % 256 ^ k) = low k u
 | 0, _ => rfl
 | k + 1, u => by
   have e1 : u % 256 ^ (k + 1) / 256 = u / 256 % 256 ^ k := by
    rw [Nat.pow_succ, Nat.mul_comm, Nat.mod_mul_right_div_self]
   have e2 : u % 256 ^ (k + 1) % 256 = u % 256 := by
    rw [Nat.pow_succ, Nat.mul_comm]
    exact Nat.mod_mul_right_mod _ _ _
   rw [low, low, e1, e2, CV k (u / 256)]
theorem FM {f : Pf} (h : 0 ≤ f.num ∧ f.num ≤ 18446744073709551615) (ht : f.text.length ≤ 18446744073709551615) : (qX f).length ≤ 10 + f.text.length := by
 unfold qX
 repeat' split
 . rw [u6]; omega
 . rw [u6]; omega
 . have := iZ ht
   rw [List.length_append]; omega
 . have := iZ (u := f.num.toNat) (by omega)
   omega
theorem Ja (n w : Int) (hp : True) : OK 184 ([.agg [.int .i64 n, .int .i64 w]]) ([]) (.int .i64 ((cN n w).length : Nat)) (none) := by
 refine al (C := cx [(44, ju), (185, oN)]) (aq ⟨kK, rF, trivial⟩) (fn := Tryz.f184) rfl rfl rfl rfl fun hw hs => ?_
 have h1 : bD n w = true → kH .u64 (IntKind.u64.wrap n) 3 = ((8 * n).toNat : Nat) := fun h => by
  have hb := rS h
  show IntKind.u64.wrap (IntKind.u64.wrap n * 2 ^ 3) = _
  rw [show IntKind.u64.wrap n = n by rw [db]; omega, db]; omega
 have h2 : bD n w = true → (8 * n).toNat ≤ 18446744073709551615 := fun h => by have hb := rS h; omega
 repeat' ((conv => whnf); first | apply aj | apply aO | (apply aw <;> intro h))
 all_goals try conv => whnf
 all_goals try (refine ae.mk ?_; try dsimp only)
 all_goals first | refine stay ?_ | trivial | skip
 all_goals
  first
  | (have hm : bD n w = true := decide_eq_true (by assumption)
     rw [h1 hm]
     have h2 := h2 hm
     omega)
  | (have hm : bD n w = true := decide_eq_true (by assumption)
     rw [h1 hm, Int.toNat_natCast]
     unfold cN
     rw [if_pos hm, ← OR hm]
     refine af.mk [] ?_ <;> (repeat' first | trivial)
     done)
  | (have hm : bD n w = false := decide_eq_false (by assumption)
     unfold cN
     rw [hm, if_neg Bool.false_ne_true]
     refine af.mk [] ?_ <;> (repeat' first | trivial)
     done)
def uY : Sm := fun args σ => match args, σ with
 | [.agg [.int .i64 n, .int .i64 w]], [] => some (True, .int .i64 ((cN n w).length : Nat), none)
 | _, _ => none
theorem Cp : au 184 uY := by
 intro args sg pre x r he hp
 unfold uY at he
 split at he <;> cases he
 . exact Ja (hp := hp) ..
theorem J3 (f : Pf) (hp : f.text.length ≤ 1000000000) : OK 190 ([av f]) ([]) (.int .i64 ((dy f).length : Nat)) (none) := by
 refine al (C := cx [(44, ju), (184, uY), (185, oN)]) (aq ⟨kK, Cp, rF, trivial⟩) (fn := Tryz.f190) rfl rfl rfl rfl fun hw hs => ?_
 have hn : 0 ≤ f.num ∧ f.num ≤ 18446744073709551615 := hw.1.2.2.1
 have ht := qD f.no f.wi
 have h1 := xX (u := f.num.toNat) (by omega)
 have h2 := xX (u := f.text.length) (by omega)
 have h3 := iZ (u := f.num.toNat) (by omega)
 have h4 := iZ (u := f.text.length) (by omega)
 have hwt : IntKind.u64.wrap (f.text.length : Int) = f.text.length := by rw [db]; omega
 repeat' ((conv => whnf); first | apply aj | apply aO | (apply aw <;> intro h))
 all_goals try conv => whnf
 all_goals try (refine ae.mk ?_; try dsimp only)
 all_goals (try simp only [hwt, Int.toNat_natCast, h1, h2] at *)
 all_goals first | refine stay ?_ | trivial | omega | skip
 all_goals
  have hf : dy f = dy f := rfl
  conv at hf => rhs; unfold dy qX
  first
  | (have hm : bD f.no f.wi = true := decide_eq_true (by assumption)
     rw [if_pos hm] at hf
     repeat (first | rw [if_pos (by assumption)] at hf | rw [if_neg (by assumption)] at hf)
     rw [hf]
     (refine af.mk [] ?_ <;> (repeat' first | trivial | rfl | exact eN _ _ | apply ax | apply dn | apply aH | apply cR | apply bo | apply cS | apply cU | apply cZ | apply cJ | apply bE))
     all_goals
      first | rw [List.length_append, u6] | (rw [List.length_append, List.length_append]) | rw [List.length_append]
      rw [qH] <;> (try rw [qH]) <;> omega)
  | (have hm : bD f.no f.wi = false := decide_eq_false (by assumption)
     rw [hm, if_neg Bool.false_ne_true] at hf
     rw [hf]
     refine af.mk [] ?_ <;> (repeat' first | trivial)
     done)
def yR : Sm := fun args σ => match args, σ with
 | [.agg [.int .i64 n_f, .int .i64 w_f, .int .u64 u_f, .str t_f]], [] => some (True ∧ ((Pf.mk n_f w_f u_f t_f).text.length ≤ 1000000000), .int .i64 ((dy (Pf.mk n_f w_f u_f t_f)).length : Nat), none)
 | _, _ => none
theorem LQ : au 190 yR := by
 intro args sg pre x r he hp
 unfold yR at he
 split at he <;> cases he
 . rw [iY (hp).1]; exact J3 (hp := hp.2) ..
end Go.Proofs.YtdjolnjlhbfnmaaGreatDoor
namespace Go.Proofs.YtdjolnjlhbfnmaaGreatDoor
open Go Go.VG
set_option maxRecDepth 100000
theorem KJ {f : Pf} (h : 0 ≤ f.num ∧ f.num ≤ 18446744073709551615) (ht : f.text.length ≤ 18446744073709551615) : (dy f).length ≤ 20 + f.text.length := by
 have h1 := qD f.no f.wi
 have h2 := FM h ht
 unfold dy
 split
 . rw [List.length_append]; omega
 . simp
def dp (l : List Pf) : List UInt8 := (l.map dy).flatten
end Go.Proofs.YtdjolnjlhbfnmaaGreatDoor
