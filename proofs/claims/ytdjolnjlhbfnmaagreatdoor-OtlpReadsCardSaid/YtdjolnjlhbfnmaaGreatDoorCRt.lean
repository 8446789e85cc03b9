/-
  A part of the proof.
-/
import Derived.Test.YtdjolnjlhbfnmaaGreatDoorCWa
set_option linter.unusedSimpArgs false
set_option linter.unusedVariables false
set_option maxHeartbeats 4000000
namespace Go.Proofs.YtdjolnjlhbfnmaaGreatDoor
open Go Go.VG
set_option maxRecDepth 100000
def low (k u : Nat) : List UInt8 := match k with
 | 0 => []
 | k + 1 => .ofNat (u % 256) :: low k (u / 256)
theorem u6 : ∀ (k u : Nat), (low k u).length = k
 | 0, _ => rfl
 | k + 1, u => by rw [low, List.length_cons, u6]
theorem Pw (l : List V) (m : Int) (hp : (0 ≤ m ∧ m ≤ 1000) ∧ l.length ≤ 2000000000) : OK 193 ([.buf 0, .int .i64 m]) ([.buf 1 0 l]) (.buf 1) (some [.buf 1 0 l, .buf 1 0 l]) := by
 refine al (C := cx []) (aq trivial) (fn := Tryz.f193) rfl rfl rfl rfl fun hw hs => ?_
 repeat' ((conv => whnf); apply aj)
 all_goals try conv => whnf
 all_goals try (refine ae.mk ?_; try dsimp only)
 all_goals first | refine stay ?_ | (simp (discharger := omega) only [wR]; omega) | skip
 refine af.mk [] ?_ <;> (repeat' first | trivial | apply ax | apply bo)
 simp
def Py : Sm := fun args σ => match args, σ with
 | [.buf 0, .int .i64 m], [.buf 1 0 l] => some ((0 ≤ m ∧ m ≤ 1000) ∧ l.length ≤ 2000000000, .buf 1, some [.buf 1 0 l, .buf 1 0 l])
 | _, _ => none
theorem JK (b : Int) (hp : 0 ≤ b ∧ b ≤ 63) : OK 158 ([.int .i64 b]) ([]) (.int .u64 (uk b)) (none) := by
 refine al (C := cx []) (aq trivial) (fn := Tryz.f158) rfl rfl rfl rfl fun hw hs => ?_
 obtain ⟨n, rfl⟩ := Int.eq_ofNat_of_zero_le hp.1
 refine aT.mk Nat (fun i => i ≤ n) (fun i => ⟨13, [(0, .int .i64 n), (3, .int .u64 (2 ^ i : Nat)), (4, .int .i64 i)], [], []⟩) (fun x => n - x) [] 0 (Nat.zero_le _) ?_ (fun i hi _ _ => ?_)
 . refine Go.VG.Sub.mk rfl ?_ ?_ ?_ ?_ <;> (repeat' first | trivial)
 have hpw : i < n → 2 ^ (i + 1) ≤ 2 ^ 63 := fun h => Nat.pow_le_pow_right (by decide) (by omega)
 have hpe : 2 ^ (i + 1) = 2 ^ i * 2 := Nat.pow_succ 2 i
 repeat' ((conv => whnf); (apply aw <;> intro h))
 all_goals try conv => whnf
 all_goals try (refine ae.mk ?_; try dsimp only)
 all_goals try refine stay ?_
 . refine ⟨[], i + 1, by omega, ?_, by omega⟩
   refine Go.VG.Sub.mk rfl ?_ ?_ ?_ ?_ <;> (repeat' first | trivial | apply ax | apply aH)
   all_goals first
    | (simp (discharger := omega) only [wR]; omega)
    | (rw [db, Int.emod_eq_of_lt (by omega) (by omega)]; omega)
 . refine af.mk [] ?_ <;> (repeat' first | trivial | apply ax | apply aH)
   obtain rfl : i = n := by omega
   rfl
def z8 : Sm := fun args σ => match args, σ with
 | [.int .i64 b], [] => some (0 ≤ b ∧ b ≤ 63, .int .u64 (uk b), none)
 | _, _ => none
theorem M0 : au 158 z8 := by
 intro args sg pre x r he hp
 unfold z8 at he
 split at he <;> cases he
 . exact JK (hp := hp) ..
end Go.Proofs.YtdjolnjlhbfnmaaGreatDoor
namespace Go.Proofs.YtdjolnjlhbfnmaaGreatDoor
open Go Go.VG
set_option maxRecDepth 100000
def eL : Nat → Nat → Nat → Cu → Nat × Cu
 | 0, _, _, c => (0, c.fail 4)
 | j + 1, i, u, c =>
   if c.byte.c ≠ 0 then (0, c.byte)
   else if i = 9 ∧ c.dG.toNat > 1 then (0, c.byte.fail 4)
   else if c.dG.toNat < 128 then (u + c.dG.toNat * 2 ^ (7 * i), c.byte)
   else eL j (i + 1) (u + (c.dG.toNat - 128) * 2 ^ (7 * i)) c.byte
def Cu.bg (c : Cu) : Nat × Cu := eL 10 0 0 c
def Cu.c7 (c : Cu) (n : Int) : List UInt8 := if c.may n = true then (c.s.drop c.p).take n.toNat else []
def Cu.text (c : Cu) : List UInt8 × Cu :=
 let v := c.bg
 if v.2.c = 0 ∧ (v.1 : Int) > v.2.left then ([], v.2.fail 1) else (v.2.c7 v.1, v.2.pass v.1)
def fj : List UInt8 → Nat
 | [] => 0
 | b :: s => b.toNat + 256 * fj s
def Cu.mY (c : Cu) : Nat × Cu := (fj (c.c7 8), c.pass 8)
theorem pow7 {i : Nat} (hi : i ≤ 8) : 2 ^ (7 * i) ≤ 72057594037927936 ∧ 0 < 2 ^ (7 * i) := by
 constructor
 . exact Nat.le_trans (Nat.pow_le_pow_right (by omega) (show 7 * i ≤ 56 by omega)) (by decide)
 . exact Nat.two_pow_pos _
theorem xt {u b i : Nat} (hi : i ≤ 9) (hu : u < 2 ^ (7 * i)) (hb : b < 128) (h9 : i = 9 → b ≤ 1) :
   mN .u64 (u : Int) (kH .u64 (IntKind.u64.wrap (b : Int)) (IntKind.i64.wrap (7 * (i : Int)))) = ((u + b * 2 ^ (7 * i) : Nat) : Int) ∧ u + b * 2 ^ (7 * i) < 18446744073709551616 := by
 have hlt : u + b * 2 ^ (7 * i) < 18446744073709551616 := by
  by_cases h : i = 9
  . subst h
    have := h9 rfl
    have e : 2 ^ (7 * 9) = 9223372036854775808 := by decide
    rw [e] at hu ⊢; omega
  . have h8 := pow7 (i := i) (by omega)
    have := Nat.mul_le_mul_right (2 ^ (7 * i)) (show b ≤ 127 by omega)
    omega
 refine ⟨?_, hlt⟩
 rw [show IntKind.i64.wrap (7 * (i : Int)) = ((7 * i : Nat) : Int) by rw [bc]; omega, show IntKind.u64.wrap (b : Int) = (b : Int) by rw [db]; omega]
 have e1 : kH .u64 (b : Int) ((7 * i : Nat) : Int) = ((b * 2 ^ (7 * i) : Nat) : Int) := by
  show IntKind.u64.wrap ((b : Int) * 2 ^ (min (7 * i) 64)) = _
  rw [Nat.min_eq_left (by omega), db]
  have : ((b : Int) * 2 ^ (7 * i)) = ((b * 2 ^ (7 * i) : Nat) : Int) := by push_cast; rfl
  rw [this]; omega
 rw [e1]
 show IntKind.u64.wrap ((BitVec.ofInt 64 (u : Int) ||| BitVec.ofInt 64 ((b * 2 ^ (7 * i) : Nat) : Int)).toNat : Int) = _
 rw [BitVec.ofInt_natCast, BitVec.ofInt_natCast, BitVec.toNat_or, BitVec.toNat_ofNat, BitVec.toNat_ofNat, Nat.mod_eq_of_lt (by omega), Nat.mod_eq_of_lt (by omega), db]
 have e2 := Nat.shiftLeft_add_eq_or_of_lt hu b
 rw [Nat.shiftLeft_eq] at e2
 rw [Nat.or_comm, ← e2]; omega
theorem F6 {u b P : Nat} (hu : u < P) : u + b % 128 * P < 128 * P := by
 have := Nat.mul_le_mul_right P (show b % 128 ≤ 127 by omega)
 omega
theorem Fp : ∀ n : Nat, n < 256 → BR .u8 n 128 = ((n % 128 : Nat) : Int) := by decide
theorem ON {u b : Nat} (hb : b < 256) (hu : u * 256 + 255 ≤ 18446744073709551615) : mN .u64 (kH .u64 (u : Int) 8) (IntKind.u64.wrap (b : Int)) = ((b + 256 * u : Nat) : Int) := by
 rw [show IntKind.u64.wrap (b : Int) = (b : Int) by rw [db]; omega]
 have e1 : kH .u64 (u : Int) 8 = ((u * 2 ^ 8 : Nat) : Int) := by
  show IntKind.u64.wrap ((u : Int) * 2 ^ 8) = _
  rw [db]; omega
 rw [e1]
 show IntKind.u64.wrap ((BitVec.ofInt 64 ((u * 2 ^ 8 : Nat) : Int) ||| BitVec.ofInt 64 (b : Int)).toNat : Int) = _
 rw [BitVec.ofInt_natCast, BitVec.ofInt_natCast, BitVec.toNat_or, BitVec.toNat_ofNat, BitVec.toNat_ofNat, Nat.mod_eq_of_lt (by omega), Nat.mod_eq_of_lt (by omega), db]
 have e2 := Nat.shiftLeft_add_eq_or_of_lt (i := 8) (b := b) (by omega) u
 rw [Nat.shiftLeft_eq] at e2
 rw [← e2]; omega
theorem xd (s : List UInt8) : fj s < 256 ^ s.length := by
 induction s with
 | nil => decide
 | cons b s ih => have := b.toNat_lt; rw [fj, List.length_cons, Nat.pow_succ]; omega
theorem F9 : ∀ (j i u : Nat) (c : Cu), c.ok → (eL j i u c).2.ok ∧ (eL j i u c).2.s = c.s ∧ (eL j i u c).2.e = c.e
 | 0, i, u, c, h => ⟨(kD h 4).1, (kD h 4).2.1, (kD h 4).2.2.1⟩
 | j + 1, i, u, c, h => by
   have hb := kT h 1
   have hf := kD hb.1 4
   rw [eL]
   split
   . exact hb
   . split
     . exact ⟨hf.1, hf.2.1.trans hb.2.1, hf.2.2.1.trans hb.2.2⟩
     . split
       . exact hb
       . have := F9 j (i + 1) (u + (c.dG.toNat - 128) * 2 ^ (7 * i)) c.byte hb.1
         exact ⟨this.1, this.2.1.trans hb.2.1, this.2.2.trans hb.2.2⟩
theorem sP {c : Cu} (h : c.ok) : c.bg.2.ok ∧ c.bg.2.s = c.s ∧ c.bg.2.e = c.e := F9 10 0 0 c h
theorem KD (c : Cu) (hp : c.ok) : OK 115 ([.ptr 0 0]) ([.cells (eC c)]) (.int .u64 c.bg.1) (some [.cells (eC c.bg.2)]) := by
 refine al (C := cx [(146, y0), (52, ni), (145, sx)]) (aq ⟨L8, pR, wH, trivial⟩) (fn := Tryz.f115) rfl rfl rfl rfl fun hw hs => ?_
 all_goals try conv => whnf
 all_goals try (refine ae.mk ?_; try dsimp only)
 refine nD.mk Unit (fun _ => True) (fun _ => ⟨43, [(0, .ptr 0 0), (3, .int .u64 0)], [.cells (eC c)], []⟩) (fun _ => 0) [] () trivial ?_ (fun _ _ _ _ => ?_)
 . refine Go.VG.Sub.mk rfl ?_ ?_ ?_ ?_ <;> (repeat' first | trivial)
 all_goals try conv => whnf
 all_goals try (refine ae.mk ?_; try dsimp only)
 refine aT.mk (Nat × Nat × Cu) (fun (i, u, d) => i ≤ 9 ∧ u < 2 ^ (7 * i) ∧ d.ok ∧ d.s = c.s ∧ eL (10 - i) i u d = c.bg) (fun (i, u, d) => ⟨43, [(6, .int .i64 i), (0, .ptr 0 0), (3, .int .u64 u)], [.cells (eC d)], []⟩) (fun x => 10 - x.1) [] (0, 0, c) ⟨by decide, by decide, hp, rfl, rfl⟩ ?_ (fun ⟨i, u, d⟩ ⟨hi, hu, hd, hds, hv⟩ _ _ => ?_)
 . refine Go.VG.Sub.mk rfl ?_ ?_ ?_ ?_ <;> (repeat' first | trivial)
 have h7 : 0 ≤ IntKind.i64.wrap (7 * (i : Int)) := by
  have e : IntKind.i64.wrap (7 * (i : Int)) = 7 * (i : Int) := by rw [bc]; omega
  rw [e]; omega
 obtain ⟨j, hj⟩ : ∃ j, 10 - i = j + 1 := ⟨9 - i, by omega⟩
 rw [hj, eL] at hv
 have hb := kT hd 1
 have hf := kD hb.1 4
 have h256 := d.dG.toNat_lt
 have ho1 := fun h1 h2 => xt (b := d.dG.toNat) hi hu h1 h2
 have ho2 := fun h2 => xt (b := d.dG.toNat % 128) hi hu (by omega) h2
 have han := Fp d.dG.toNat (by omega)
 repeat' ((conv => whnf); first | apply aj | apply aO | (apply aw <;> intro h))
 all_goals try conv => whnf
 all_goals try (refine ae.mk ?_; try dsimp only)
 all_goals (try simp only [han] at *)
 all_goals (try simp only [dc] at *)
 all_goals first | refine stay ?_ | trivial | skip
 all_goals first
  | exact h7
  | (exfalso; omega)
  | (show af _ _ _ _ _ _
     repeat (first | rw [if_pos (by first | assumption | omega)] at hv | rw [if_neg (by first | assumption | omega)] at hv)
     rw [← hv]
     (refine af.mk [] ?_ <;> (repeat' first | trivial | rfl | exact eN _ _ | apply ax | apply dn | apply aH | apply cR | apply bo | apply cS | apply cU | apply cZ | apply cJ | apply bE))
     all_goals (exact (ho1 (by omega) (by omega)).1))
  | skip
 have h8 := pow7 (i := i) (by omega)
 have hP : 2 ^ (7 * (i + 1)) = 128 * 2 ^ (7 * i) := by rw [show 7 * (i + 1) = 7 + 7 * i by omega, Nat.pow_add]
 have hmm : d.dG.toNat - 128 = d.dG.toNat % 128 := by omega
 repeat (first | rw [if_pos (by first | assumption | omega)] at hv | rw [if_neg (by first | assumption | omega)] at hv)
 have := Nat.mul_le_mul_right (2 ^ (7 * i)) (show d.dG.toNat % 128 ≤ 127 by omega)
 refine ⟨[], (i + 1, u + d.dG.toNat % 128 * 2 ^ (7 * i), d.byte), ⟨by omega, by rw [hP]; exact F6 hu, hb.1, hb.2.1.trans hds, ?_⟩, ?_, by show 10 - (i + 1) < 10 - i; omega⟩
 . rw [← hv, hmm, show 10 - (i + 1) = j by omega]
 refine Go.VG.Sub.mk rfl ?_ ?_ ?_ ?_ <;> (repeat' first | trivial | apply ax | apply aH)
 . (simp (discharger := omega) only [wR]; omega)
 . exact (ho2 (by omega)).1
def sK : Sm := fun args σ => match args, σ with
 | [.ptr 0 0], [.cells ([.str s_c, .int .i64 (.ofNat a_c), .int .i64 (.ofNat e_c), .int .i64 c_c])] => some (True ∧ ((Cu.mk s_c a_c e_c c_c).ok), .int .u64 (Cu.mk s_c a_c e_c c_c).bg.1, some [.cells (eC (Cu.mk s_c a_c e_c c_c).bg.2)])
 | _, _ => none
theorem wT : au 115 sK := by
 intro args sg pre x r he hp
 unfold sK at he
 split at he <;> cases he
 . rw [gm (hp).1]; exact KD (hp := hp.2) ..
end Go.Proofs.YtdjolnjlhbfnmaaGreatDoor
namespace Go.Proofs.YtdjolnjlhbfnmaaGreatDoor
open Go Go.VG
set_option maxRecDepth 100000
theorem B0 {s : List UInt8} {p n : Int} (h : 0 ≤ p ∧ 0 ≤ n) : List.drop p.toNat (List.take (p + n).toNat s) = (s.drop p.toNat).take n.toNat := by
 rw [List.drop_take, show (p + n).toNat - p.toNat = n.toNat by omega]
theorem Hk (c : Cu) (p n : Int) (hp : 0 ≤ p ∧ 0 ≤ n ∧ p + n ≤ c.s.length) : OK 162 ([.int .i64 p, .ptr 0 0, .ptr 1 0, .ptr 2 0]) ([.cells [.ptr 3 0], .cells [.int .i64 n], .cells [.str []], .cells (eC c)]) (.tuple []) (some [.cells [.ptr 3 0], .cells [.int .i64 n], .cells [.str ((c.s.drop p.toNat).take n.toNat)], .cells (eC c)]) := by
 refine al (C := cx []) (aq trivial) (fn := Tryz.f162) rfl rfl rfl rfl fun hw hs => ?_
 have hb : c.s.length ≤ 9223372036854775807 := hs.2.2.2.1.1
 have hpn : IntKind.i64.wrap (p + n) = p + n := by (simp (discharger := omega) only [wR]; omega)
 repeat' ((conv => whnf); apply aj)
 all_goals try conv => whnf
 all_goals try (refine ae.mk ?_; try dsimp only)
 all_goals (try simp only [hpn] at *)
 all_goals first | refine stay ?_ | omega | skip
 refine af.mk [] ?_ <;> (repeat' first | trivial | apply ax | apply dn | apply cS | apply bE)
 exact B0 ⟨hp.1, hp.2.1⟩
def y7 : Sm := fun args σ => match args, σ with
 | [.int .i64 p, .ptr 0 0, .ptr 1 0, .ptr 2 0], [.cells [.ptr 3 0], .cells [.int .i64 n], .cells [.str []], .cells ([.str s_c, .int .i64 (.ofNat a_c), .int .i64 (.ofNat e_c), .int .i64 c_c])] => some (True ∧ (0 ≤ p ∧ 0 ≤ n ∧ p + n ≤ (Cu.mk s_c a_c e_c c_c).s.length), .tuple [], some [.cells [.ptr 3 0], .cells [.int .i64 n], .cells [.str (((Cu.mk s_c a_c e_c c_c).s.drop p.toNat).take n.toNat)], .cells (eC (Cu.mk s_c a_c e_c c_c))])
 | _, _ => none
theorem Ld : au 162 y7 := by
 intro args sg pre x r he hp
 unfold y7 at he
 split at he <;> cases he
 . rw [gm (hp).1]; exact Hk (hp := hp.2) ..
theorem Hi (c : Cu) (n m : Int) (hp : c.ok ∧ n = m) : OK 159 ([.func (.func 160) [.ptr 0 0] [], .int .i64 n, .func (.func 162) [] [.ptr 1 0, .ptr 2 0, .ptr 3 0]]) ([.cells (eC c), .cells [.ptr 0 0], .cells [.int .i64 m], .cells [.str []]]) (.tuple []) (some [.cells (eC (c.pass n)), .cells [.ptr 0 0], .cells [.int .i64 n], .cells [.str (c.c7 n)]]) := by
 refine al (C := cx [(160, uM), (162, y7)]) (aq ⟨C9, Ld, trivial⟩) (fn := Tryz.f159) rfl rfl rfl rfl fun hw hs => ?_
 obtain ⟨hp, rfl⟩ := hp
 have h1 := hp.1
 have h2 := hp.2
 have hq := kT hp n
 repeat' ((conv => whnf); first | apply aj | (apply aw <;> intro h))
 all_goals try conv => whnf
 all_goals try (refine ae.mk ?_; try dsimp only)
 all_goals (try simp only [dc] at *)
 all_goals first | refine stay ?_ | trivial | skip
 . have hm : c.may n = true := decide_eq_true (by assumption)
   rw [hm, if_pos rfl, hq.2.1]
   exact ⟨trivial, by omega, by omega, by omega⟩
 . have hm : c.may n = true := decide_eq_true (by assumption)
   refine af.mk [] ?_ <;> (repeat' first | trivial | apply ax | apply dn | apply cS | apply bE)
   rw [hm, if_pos rfl, hq.2.1]
   unfold Cu.c7
   rw [hm, if_pos rfl]
   rfl
 . have hm : c.may n = false := decide_eq_false (by assumption)
   refine af.mk [] ?_ <;> (repeat' first | trivial | apply ax | apply dn | apply cS | apply bE)
   unfold Cu.c7
   rw [hm, if_neg Bool.false_ne_true]
def y6 : Sm := fun args σ => match args, σ with
 | [.func (.func 160) [.ptr 0 0] [], .int .i64 n, .func (.func 162) [] [.ptr 1 0, .ptr 2 0, .ptr 3 0]], [.cells ([.str s_c, .int .i64 (.ofNat a_c), .int .i64 (.ofNat e_c), .int .i64 c_c]), .cells [.ptr 0 0], .cells [.int .i64 m], .cells [.str []]] => some (True ∧ ((Cu.mk s_c a_c e_c c_c).ok ∧ n = m), .tuple [], some [.cells (eC ((Cu.mk s_c a_c e_c c_c).pass n)), .cells [.ptr 0 0], .cells [.int .i64 n], .cells [.str ((Cu.mk s_c a_c e_c c_c).c7 n)]])
 | _, _ => none
theorem Lc : au 159 y6 := by
 intro args sg pre x r he hp
 unfold y6 at he
 split at he <;> cases he
 . rw [gm (hp).1]; exact Hi (hp := hp.2) ..
theorem Hl (c : Cu) (n : Int) (hp : c.ok) : OK 147 ([.ptr 0 0, .int .i64 n]) ([.cells (eC c)]) (.str (c.c7 n)) (some [.cells (eC (c.pass n))]) := by
 refine al (C := cx [(159, y6)]) (aq ⟨Lc, trivial⟩) (fn := Tryz.f147) rfl rfl rfl rfl fun hw hs => ?_
 repeat' ((conv => whnf); apply aj)
 all_goals try conv => whnf
 all_goals try (refine ae.mk ?_; try dsimp only)
 all_goals (try simp only [dc] at *)
 all_goals first | refine stay ?_ | trivial | skip
 refine af.mk [] ?_ <;> (repeat' first | trivial)
def sy : Sm := fun args σ => match args, σ with
 | [.ptr 0 0, .int .i64 n], [.cells ([.str s_c, .int .i64 (.ofNat a_c), .int .i64 (.ofNat e_c), .int .i64 c_c])] => some (True ∧ ((Cu.mk s_c a_c e_c c_c).ok), .str ((Cu.mk s_c a_c e_c c_c).c7 n), some [.cells (eC ((Cu.mk s_c a_c e_c c_c).pass n))])
 | _, _ => none
theorem wI : au 147 sy := by
 intro args sg pre x r he hp
 unfold sy at he
 split at he <;> cases he
 . rw [gm (hp).1]; exact Hl (hp := hp.2) ..
theorem F8 : ∀ (j i u : Nat) (c : Cu), i + j = 10 → u < 2 ^ (7 * i) → (eL j i u c).1 ≤ 18446744073709551615
 | 0, i, u, c, _, _ => by rw [eL]; exact Nat.zero_le _
 | j + 1, i, u, c, hi, hu => by
   have h256 := c.dG.toNat_lt
   rw [eL]
   split
   . exact Nat.zero_le _
   . split
     . exact Nat.zero_le _
     . rename_i h2
       split
       . rename_i h3
         have := (xt (i := i) (by omega) hu h3 (fun h => by omega)).2
         show u + _ ≤ _
         omega
       . rename_i h3
         refine F8 j (i + 1) _ _ (by omega) ?_
         rw [show 7 * (i + 1) = 7 + 7 * i by omega, Nat.pow_add, show c.dG.toNat - 128 = c.dG.toNat % 128 by omega]
         exact F6 hu
theorem zT {c : Cu} : c.bg.1 ≤ 18446744073709551615 := F8 10 0 0 c rfl (by decide)
theorem EN (c : Cu) : (c.c7 8).length ≤ 8 := by
 unfold Cu.c7
 split
 . rw [List.length_take]; exact Nat.min_le_left _ _
 . simp
theorem xe {s : List UInt8} {m : Nat} (h : m < s.length) : fj (s.drop m) = (s.getD m 0).toNat + 256 * fj (s.drop (m + 1)) := by
 rw [List.drop_eq_getElem_cons h, fj, List.getD_eq_getElem?_getD, List.getElem?_eq_getElem h]; rfl
theorem CU {s : List UInt8} {m : Nat} (h : s.length ≤ 8) (hm : 1 ≤ m) : fj (s.drop m) * 256 + 255 ≤ 18446744073709551615 := by
 have h1 := xd (s.drop m)
 have h2 : (s.drop m).length ≤ 7 := by rw [List.length_drop]; omega
 have h3 := Nat.pow_le_pow_right (n := 256) (by decide) h2
 have h4 : (256 : Nat) ^ 7 = 72057594037927936 := by decide
 omega
theorem Kf (c : Cu) (hp : c.ok) : OK 116 ([.ptr 0 0]) ([.cells (eC c)]) (.int .u64 c.mY.1) (some [.cells (eC c.mY.2)]) := by
 refine al (C := cx [(147, sy)]) (aq ⟨wI, trivial⟩) (fn := Tryz.f116) rfl rfl rfl rfl fun hw hs => ?_
 have hl := EN c
 repeat' ((conv => whnf); apply aj)
 all_goals try conv => whnf
 all_goals try (refine ae.mk ?_; try dsimp only)
 . exact ⟨trivial, hp⟩
 refine aT.mk Nat (fun m => m ≤ (c.c7 8).length) (fun m => ⟨23, [(3, .int .u64 (fj ((c.c7 8).drop m))), (4, .str (c.c7 8)), (5, .int .i64 ((m : Int) - 1))], [.cells (eC (c.pass 8))], []⟩) (fun m => m) [] (c.c7 8).length (Nat.le_refl _) ?_ (fun m hm _ _ => ?_)
 . refine Go.VG.Sub.mk rfl ?_ ?_ ?_ ?_ <;> (repeat' first | trivial | apply ax | apply aH)
   . rw [List.drop_length]; rfl
   . show IntKind.i64.wrap (((c.c7 8).length : Int) - 1) = ((c.c7 8).length : Int) - 1
     (simp (discharger := omega) only [wR]; omega)
 have hl := EN c
 have hst := fun h => xe (s := c.c7 8) (m := m - 1) h
 have hbb := fun h => CU (m := m) hl h
 repeat' ((conv => whnf); first | apply aj | (apply aw <;> intro h) | with_reducible refine jL ?_ fun hc => ?_)
 all_goals try conv => whnf
 all_goals try (refine ae.mk ?_; try dsimp only)
 all_goals (try simp only [dc] at *)
 all_goals first | refine stay ?_ | trivial | omega | skip
 . obtain ⟨q, rfl⟩ : ∃ q, m = q + 1 := ⟨m - 1, by omega⟩
   have hst := hst (by omega)
   have hbb := hbb (by omega)
   have hq : ((q + 1 : Nat) : Int) - 1 = q := by omega
   have h256 := ((c.c7 8).getD q 0).toNat_lt
   refine ⟨[], q, by omega, ?_, by omega⟩
   refine Go.VG.Sub.mk rfl ?_ ?_ ?_ ?_ <;> (repeat' first | trivial | apply ax | apply aH)
   . rw [show (((q + 1 : Nat) : Int) - 1).toNat = q by omega, ON (by omega) hbb]
     rw [show q + 1 - 1 = q by omega] at hst
     rw [hst]
   . rw [hq]
     (simp (discharger := omega) only [wR]; omega)
 . obtain rfl : m = 0 := by omega
   refine af.mk [] ?_ <;> (repeat' first | trivial)
def zn : Sm := fun args σ => match args, σ with
 | [.ptr 0 0], [.cells ([.str s_c, .int .i64 (.ofNat a_c), .int .i64 (.ofNat e_c), .int .i64 c_c])] => some (True ∧ ((Cu.mk s_c a_c e_c c_c).ok), .int .u64 (Cu.mk s_c a_c e_c c_c).mY.1, some [.cells (eC (Cu.mk s_c a_c e_c c_c).mY.2)])
 | _, _ => none
theorem Ma : au 116 zn := by
 intro args sg pre x r he hp
 unfold zn at he
 split at he <;> cases he
 . rw [gm (hp).1]; exact Kf (hp := hp.2) ..
theorem zL (c : Cu) : (c.c7 4).length ≤ 4 := by
 unfold Cu.c7
 split
 . rw [List.length_take]; exact Nat.min_le_left _ _
 . simp
def Cu.jP (c : Cu) : Nat × Cu := (fj (c.c7 4), c.pass 4)
theorem MP {s : List UInt8} {m : Nat} (h : s.length ≤ 4) (hm : 1 ≤ m) : fj (s.drop m) * 256 + 255 ≤ 4294967295 := by
 have h1 := xd (s.drop m)
 have h2 : (s.drop m).length ≤ 3 := by rw [List.length_drop]; omega
 have h3 := Nat.pow_le_pow_right (n := 256) (by decide) h2
 have h4 : (256 : Nat) ^ 3 = 16777216 := by decide
 omega
theorem OO {u b : Nat} (hb : b < 256) (hu : u * 256 + 255 ≤ 4294967295) : mN .u32 (kH .u32 (u : Int) 8) (IntKind.u32.wrap (b : Int)) = ((b + 256 * u : Nat) : Int) := by
 rw [show IntKind.u32.wrap (b : Int) = (b : Int) by rw [qI]; omega]
 have e1 : kH .u32 (u : Int) 8 = ((u * 2 ^ 8 : Nat) : Int) := by
  show IntKind.u32.wrap ((u : Int) * 2 ^ 8) = _
  rw [qI]; omega
 rw [e1]
 show IntKind.u32.wrap ((BitVec.ofInt 32 ((u * 2 ^ 8 : Nat) : Int) ||| BitVec.ofInt 32 (b : Int)).toNat : Int) = _
 rw [BitVec.ofInt_natCast, BitVec.ofInt_natCast, BitVec.toNat_or, BitVec.toNat_ofNat, BitVec.toNat_ofNat, Nat.mod_eq_of_lt (by omega), Nat.mod_eq_of_lt (by omega), qI]
 have e2 := Nat.shiftLeft_add_eq_or_of_lt (i := 8) (b := b) (by omega) u
 rw [Nat.shiftLeft_eq] at e2
 rw [← e2]; omega
theorem Ke (c : Cu) (hp : c.ok) : OK 117 ([.ptr 0 0]) ([.cells (eC c)]) (.int .u32 c.jP.1) (some [.cells (eC c.jP.2)]) := by
 refine al (C := cx [(147, sy)]) (aq ⟨wI, trivial⟩) (fn := Tryz.f117) rfl rfl rfl rfl fun hw hs => ?_
 have hl := zL c
 repeat' ((conv => whnf); first | with_reducible (first | refine go1 (fun j q h => ?_) fun h => ?_ | refine go2 ⟨rfl, rfl⟩ (fun h => ?_) fun j h => ?_ | refine go2 ?_ (fun h => ?_) fun j h => ?_ | refine goQ ?_ (fun h => ?_) fun h => ?_) | apply aj | apply iN | apply aO | ((first | apply aw | apply go7 | apply go8 | apply fw | apply eG) <;> intro h) | with_reducible (first | refine ez.mk _ rfl ?_ | refine goB ?_ fun hc => ?_ | refine goC ?_ fun hc => ?_ | refine goD ?_ fun hc => ?_ | refine jL ?_ fun hc => ?_ | apply c9 | apply kG | refine pI ?_ fun b hb => ?_) | apply goI | apply goJ | apply goK | apply goL | apply goM | apply goN | apply goO | with_reducible refine goP ?_)
 all_goals try conv => whnf
 all_goals try (refine ae.mk ?_; try dsimp only)
 . exact ⟨trivial, hp⟩
 refine aT.mk Nat (fun m => m ≤ (c.c7 4).length) (fun m => ⟨23, [(3, .int .u32 (fj ((c.c7 4).drop m))), (4, .str (c.c7 4)), (5, .int .i64 ((m : Int) - 1))], [.cells (eC (c.pass 4))], []⟩) (fun m => m) [] (c.c7 4).length (Nat.le_refl _) ?_ (fun m hm _ _ => ?_)
 . refine Go.VG.Sub.mk rfl ?_ ?_ ?_ ?_ <;> (repeat' first | trivial | rfl | exact eN _ _ | apply ax | apply dn | apply aH | apply cR | apply bo | apply cS | apply cU | apply cZ | apply cJ | apply bE)
   . rw [List.drop_length]; rfl
   . show IntKind.i64.wrap (((c.c7 4).length : Int) - 1) = ((c.c7 4).length : Int) - 1
     (first | omega | (simp (discharger := omega) only [wR]; omega) | (simp only [cL]; omega) | (simp (discharger := omega) [-List.getD_eq_getElem?_getD, wR] <;> omega))
 have hl := zL c
 have hst := fun h => xe (s := c.c7 4) (m := m - 1) h
 have hbb := fun h => MP (m := m) hl h
 repeat' ((conv => whnf); first | with_reducible (first | refine go1 (fun j q h => ?_) fun h => ?_ | refine go2 ⟨rfl, rfl⟩ (fun h => ?_) fun j h => ?_ | refine go2 ?_ (fun h => ?_) fun j h => ?_ | refine goQ ?_ (fun h => ?_) fun h => ?_) | apply aj | apply iN | apply aO | ((first | apply aw | apply go7 | apply go8 | apply fw | apply eG) <;> intro h) | with_reducible (first | refine ez.mk _ rfl ?_ | refine goB ?_ fun hc => ?_ | refine goC ?_ fun hc => ?_ | refine goD ?_ fun hc => ?_ | refine jL ?_ fun hc => ?_ | apply c9 | apply kG | refine pI ?_ fun b hb => ?_) | apply goI | apply goJ | apply goK | apply goL | apply goM | apply goN | apply goO | with_reducible refine goP ?_)
 all_goals try conv => whnf
 all_goals try (refine ae.mk ?_; try dsimp only)
 all_goals (try simp only [dc] at *)
 all_goals first | refine stay ?_ | trivial | omega | (simp (discharger := omega) only [wR]; omega) | (simp only [cL]; omega) | (simp (discharger := omega) [-List.getD_eq_getElem?_getD, wR] <;> omega) | skip
 . obtain ⟨q, rfl⟩ : ∃ q, m = q + 1 := ⟨m - 1, by omega⟩
   have hst := hst (by omega)
   have hbb := hbb (by omega)
   have hq : ((q + 1 : Nat) : Int) - 1 = q := by omega
   have h256 := ((c.c7 4).getD q 0).toNat_lt
   refine ⟨[], q, by omega, ?_, by omega⟩
   refine Go.VG.Sub.mk rfl ?_ ?_ ?_ ?_ <;> (repeat' first | trivial | rfl | exact eN _ _ | apply ax | apply dn | apply aH | apply cR | apply bo | apply cS | apply cU | apply cZ | apply cJ | apply bE)
   . rw [show (((q + 1 : Nat) : Int) - 1).toNat = q by omega, OO (by omega) hbb]
     rw [show q + 1 - 1 = q by omega] at hst
     rw [hst]
   . rw [hq]
     (first | omega | (simp (discharger := omega) only [wR]; omega) | (simp only [cL]; omega) | (simp (discharger := omega) [-List.getD_eq_getElem?_getD, wR] <;> omega))
 . obtain rfl : m = 0 := by omega
   refine af.mk [] ?_ <;> (repeat' first | trivial | rfl | exact eN _ _ | apply ax | apply dn | apply aH | apply cR | apply bo | apply cS | apply cU | apply cZ | apply cJ | apply bE)
def zo : Sm := fun args σ => match args, σ with
 | [.ptr 0 0], [.cells ([.str s_c, .int .i64 (.ofNat a_c), .int .i64 (.ofNat e_c), .int .i64 c_c])] => some (True ∧ ((Cu.mk s_c a_c e_c c_c).ok), .int .u32 (Cu.mk s_c a_c e_c c_c).jP.1, some [.cells (eC (Cu.mk s_c a_c e_c c_c).jP.2)])
 | _, _ => none
theorem Mb : au 117 zo := by
 intro args sg pre x r he hp
 unfold zo at he
 split at he <;> cases he
 . rw [gm (hp).1]; exact Ke (hp := hp.2) ..
theorem Bq {c : Cu} (h : ¬ c.c = 0) (n : Int) : c.c7 n = [] ∧ c.pass n = c := by
 constructor
 . unfold Cu.c7 Cu.may
   rw [if_neg (by rw [decide_eq_false (fun q => h q.1)]; decide)]
 . unfold Cu.pass; rw [if_pos h]
theorem qj {c : Cu} (h : ¬ c.c = 0) (n : Int) : c.pass n = c := by unfold Cu.pass; rw [if_pos h]
theorem zS {c : Cu} (h : ¬ c.c = 0) : c.bg = (0, c) := by
 unfold Cu.bg
 rw [eL, show c.byte = c from qj h 1, if_pos h]
end Go.Proofs.YtdjolnjlhbfnmaaGreatDoor
