/-
  A part of the proof.
-/
import Derived.Test.YtipejldppicijaaGreatDoorCRt
import Derived.Test.YtipejldppicijaaGreatDoorCVd
import Derived.Test.YtipejldppicijaaGreatDoorCVe
import Derived.Test.YtipejldppicijaaGreatDoorCWb
set_option linter.unusedSimpArgs false
set_option linter.unusedVariables false
set_option maxHeartbeats 4000000
namespace Go.Proofs.YtipejldppicijaaGreatDoor
open Go Go.VG
set_option maxRecDepth 100000
end Go.Proofs.YtipejldppicijaaGreatDoor
namespace Go.Proofs.YtipejldppicijaaGreatDoor
open Go Go.VG
set_option maxRecDepth 100000
end Go.Proofs.YtipejldppicijaaGreatDoor
namespace Go.Proofs.YtipejldppicijaaGreatDoor
open Go Go.VG
set_option maxRecDepth 100000
end Go.Proofs.YtipejldppicijaaGreatDoor
namespace Go.Proofs.YtipejldppicijaaGreatDoor
open Go Go.VG
set_option maxRecDepth 100000
def gX (k : Nat) : Nat → Cu → Int → List Fd → Option (List Fd × Cu)
 | 0, _, _, _ => none
 | n + 1, c, last, acc =>
   if (c.aI last).1.2 = 0 then some (acc, (c.aI last).2)
   else gX k n (c8 k ⟨(c.aI last).1.1, (c.aI last).1.2, 0, 0, [], []⟩ (c.aI last).2).2 (c.aI last).1.1 (acc ++ [(c8 k ⟨(c.aI last).1.1, (c.aI last).1.2, 0, 0, [], []⟩ (c.aI last).2).1])
def s9 (k : Nat) (s : List UInt8) : Option (List Fd × Cu) := gX k (s.length + 1) (Cu.new s) 0 []
end Go.Proofs.YtipejldppicijaaGreatDoor
namespace Go.Proofs.YtipejldppicijaaGreatDoor
open Go Go.VG
set_option maxRecDepth 100000
end Go.Proofs.YtipejldppicijaaGreatDoor
namespace Go.Proofs.YtipejldppicijaaGreatDoor
open Go Go.VG
set_option maxRecDepth 100000
instance : Inhabited Fd := ⟨⟨0, 0, 0, 0, [], []⟩⟩
abbrev SR : Type := Int × Nat × List Fd
def gW : Option (List Fd × Cu) → SR
 | some r => if r.2.c = 0 then (0, r.2.p, r.1) else (r.2.c, 0, [])
 | none => (1, 0, [])
def c7 (d : Int) (s : List UInt8) : SR := if d ≥ 32 then (33, 0, []) else gW (s9 (31 - d).toNat s)
theorem fld_k {c : Cu} {a : Int} (h : (c.aI a).1.2 ≠ 0) : 1 ≤ (c.aI a).1.2 ∧ (c.aI a).1.2 ≤ 12 := by
 have h256 := c.aL.toNat_lt
 have hb : ((Go.VG.byte ((c.aL.toNat % 16 : Nat) : Int)).toNat : Int) = ((c.aL.toNat % 16 : Nat) : Int) := dc (by omega)
 unfold Cu.aI fW at h ⊢
 repeat' split at h
 all_goals first
  | exact absurd rfl h
  | skip
 all_goals
  have := eO.1 ‹il (Go.VG.byte ((c.aL.toNat % 16 : Nat) : Int)) = true›
  repeat' split
  all_goals first
   | contradiction
   | (dsimp only; omega)
theorem zf {d : Nat} : ∀ (n : Nat) (c : Cu) (a : Int) (acc : List Fd), c.ok → c.e - c.p < n → ∃ r, gX d n c a acc = some r
 | 0, _, _, _, _, h => absurd h (Nat.not_lt_zero _)
 | n + 1, c, a, acc, hc, h => by
   rw [gX]
   by_cases g : (c.aI a).1.2 = 0
   . rw [if_pos g]; exact ⟨_, rfl⟩
   . rw [if_neg g]
     have hp := (x9 hc g).1
     have hf := Kp.aI hc a
     have hv := Kp.c8 hf.1 d ⟨(c.aI a).1.1, (c.aI a).1.2, 0, 0, [], []⟩
     have q1 := hv.2.2.1
     have q2 := hf.2.2.1
     have q3 := hv.2.2.2
     have q4 := hf.1.1
     refine zf n _ _ _ hv.1 (by omega)
theorem sa (d : Nat) (s : List UInt8) : ∃ r, s9 d s = some r := zf _ _ _ _ (oK s) (by show s.length - 0 < s.length + 1; omega)
def kD (c : Cu) : Cu := if c.aL.toNat > 2 then c.byte.fail 3 else c.byte
def pH (i : Int) (c : Cu) : Fd := if c.aL.toNat = 1 then ⟨i, 1, 1, 0, [], []⟩ else ⟨i, 2, 0, 0, [], []⟩
def ey (d : Nat) (k : Int) : Nat → Nat → Cu → List Fd → List Fd × Cu
 | 0, _, c, acc => (acc, c)
 | m + 1, i, c, acc => if c.c ≠ 0 then (acc, c) else if k = 1 ∨ k = 2 then ey d k m (i + 1) (kD c) (acc ++ [pH i c]) else ey d k m (i + 1) (c8 d ⟨i, k, 0, 0, [], []⟩ c).2 (acc ++ [(c8 d ⟨i, k, 0, 0, [], []⟩ c).1])
abbrev IR : Type := Int × List Fd
def eN (r : List Fd × Cu) : IR := if r.2.fin ≠ 0 then (r.2.fin, []) else (0, r.1)
def c6 (d : Int) (s : List UInt8) : IR := if d ≥ 32 then (33, []) else eN (ey (31 - d).toNat (Cu.new s).bm.1.2 (Cu.new s).bm.1.1.toNat 0 (Cu.new s).bm.2 [])
def jX (l : List Fd) (id k : Int) : Nat → Option Fd
 | 0 => none
 | m + 1 => if (l.getD m default).id = id ∧ gY (byte (l.getD m default).k) (byte k) = true then some (l.getD m default) else jX l id k m
def bA (l : List Fd) (id k : Int) : Option Fd := jX l id k l.length
def cC (o : Option Fd) : Fd := o.getD ⟨0, 0, 0, 0, [], []⟩
end Go.Proofs.YtipejldppicijaaGreatDoor
namespace Go.Proofs.YtipejldppicijaaGreatDoor
open Go Go.VG
set_option maxRecDepth 100000
-- #name r21Value truchmanref21.Value
end Go.Proofs.YtipejldppicijaaGreatDoor
namespace Go.Proofs.YtipejldppicijaaGreatDoor
open Go Go.VG
set_option maxRecDepth 100000
def cL : V → Fd
 | .agg [.int _ i, .int _ k, .int _ n, .int _ b, .str t, .str r] => ⟨i, k, n, b, t, r⟩
 | _ => default
theorem dd (l : List Fd) : (l.map cM).map cL = l := by
 induction l with
 | nil => rfl
 | cons f l ih => rw [List.map_cons, List.map_cons, ih]; rfl
abbrev dt (l : List Fd) : V := .list false 6 (l.map cM)
theorem pJ {l : List V} (h : l = (l.map cL).map cM) : V.list false 6 l = dt (l.map cL) := congrArg (V.list false 6) h
theorem di (l : List Fd) : l.map cM = ((l.map cM).map cL).map cM := by rw [dd]
def sV (r : SR) : V := if r.1 = 0 then .tuple [.list false 6 (r.2.2.map cM), .int .i64 r.2.1, .int .i64 0] else .tuple [.list true 0 [], .int .i64 0, .int .i64 r.1]
theorem Hl {o : Option (List Fd × Cu)} (h : (gW o).1 ≠ 0) : (gW o).2 = (0, []) := by
 unfold gW at h ⊢
 split
 . dsimp only at h
   split
   . rename_i q; rw [if_pos q] at h; exact absurd rfl h
   . rfl
 . rfl
theorem sV_wk {r : SR} (h : r.1 ≠ 0 → r.2 = (0, [])) : Wk (sV r) (.tuple [dt r.2.2, .int .i64 r.2.1, .int .i64 r.1]) := by
 unfold sV
 by_cases q : r.1 = 0
 . rw [if_pos q, q]; exact Wk.refl _
 . rw [if_neg q, h q]
   exact Wk.tuple (aC.cons (Wk.nil (.inl rfl)) (aC.refl _))
def iV (r : IR) : V := if r.1 = 0 then .tuple [.list false 6 (r.2.map cM), .int .i64 0] else .tuple [.list true 0 [], .int .i64 r.1]
theorem iV_wk {r : IR} (h : r.1 ≠ 0 → r.2 = []) : Wk (iV r) (.tuple [dt r.2, .int .i64 r.1]) := by
 unfold iV
 by_cases q : r.1 = 0
 . rw [if_pos q, q]; exact Wk.refl _
 . rw [if_neg q, h q]
   exact Wk.tuple (aC.cons (Wk.nil (.inl rfl)) (aC.refl _))
theorem DI (k : Nat) (hv : aa 34 (nm k)) (s : List UInt8) (d : Int) (hp : s.length ≤ 1000000000 ∧ d + k + 1 = 32) : OK 10 [.str s, .int .i64 d] [] (sV (gW (s9 k s))) none := by
 refine ai (C := cx [(32, nk), (33, rp), (34, nm k), (35, fK), (36, rb)]) (aj ⟨qD, xP, hv, gu, xH, trivial⟩) (fn := Tryz.f10) rfl rfl rfl rfl fun hw _ => ?_
 obtain ⟨hl, hd⟩ := hp
 obtain ⟨r, hr⟩ := sa k s
 have hd1 : -9223372036854775808 ≤ d := hw.2.1.1
 rw [hr]
 repeat' ((conv => whnf); first | apply a9 | (apply ao <;> intro h))
 all_goals try conv => whnf
 all_goals try (refine a8.mk ?_; try dsimp only)
 . exfalso; omega
 refine br.mk (Nat × Cu × Int × List Fd) (fun (n, c, last, acc) => c.ok ∧ c.s = s ∧ acc.length + n ≤ s.length + 1 ∧ gX k n c last acc = some r) (fun (n, c, last, acc) => ⟨56, [(1, .int .i64 d), (4, .buf 2), (7, .ptr 1 0), (8, .int .i64 last)], [.cells (eC c), .cells [.str s, .ptr 0 0], .buf 6 0 (acc.map cM)], [2]⟩) (fun x => x.1) [.tm 4 6] (s.length + 1, .new s, 0, []) ⟨oK s, rfl, by simp, hr⟩ ?_ (fun ⟨n, c, last, acc⟩ ⟨h1, h2, h3, h4⟩ _ _ => ?_)
 . refine Go.VG.Sub.mk rfl ?_ ?_ ?_ ?_ <;> (repeat' first | trivial)
 cases n with
 | zero => rw [gX] at h4; cases h4
 | succ n =>
 rw [gX] at h4
 have hfo := Kp.aI h1 last
 have hvo := Kp.c8 hfo.1 k ⟨(c.aI last).1.1, (c.aI last).1.2, 0, 0, [], []⟩
 repeat' ((conv => whnf); first | apply a9 | apply aQ | (apply ao <;> intro h))
 all_goals try conv => whnf
 all_goals try (refine a8.mk ?_; try dsimp only)
 all_goals (try simp only [bM] at *)
 all_goals first | refine stay ?_ | trivial | (simp (discharger := omega) [-List.getD_eq_getElem?_getD, wR] <;> omega) | skip
 . rw [if_pos (by assumption)] at h4
   cases h4
   have e : sV (gW (some (acc, (c.aI last).2))) = .tuple [.list false 6 (acc.map cM), .int .i64 (c.aI last).2.p, .int .i64 0] := by
    unfold gW
    dsimp only
    rw [if_pos (by assumption)]; rfl
   rw [e]
   refine a7.mk [.bD 2] ?_ <;> (repeat' first | trivial)
 . rw [if_pos (by assumption)] at h4
   cases h4
   have e : sV (gW (some (acc, (c.aI last).2))) = .tuple [.list true 0 [], .int .i64 0, .int .i64 (c.aI last).2.c] := by
    unfold gW
    dsimp only
    rw [if_neg (by assumption)]
    unfold sV
    rw [if_neg (by assumption)]
   rw [e]
   refine a7.mk [] ?_ <;> (repeat' first | trivial)
 . exact ⟨trivial, trivial, hfo.1, by rw [hfo.2.1, h2]; omega, by rw [bS]; omega, by rw [hfo.2.1, h2]⟩
 . rw [if_neg (by assumption)] at h4
   refine ⟨[], (n, _, _, _), ⟨hvo.1, by rw [hvo.2.1, hfo.2.1, h2], by rw [List.length_append, List.length_singleton]; omega, h4⟩, ?_, by show n < n + 1; omega⟩
   refine Go.VG.Sub.mk rfl ?_ ?_ ?_ ?_ <;> (repeat' first | trivial | apply ah | apply aG)
   all_goals (first | rfl | (simp; done))
theorem Cn (s : List UInt8) (d : Int) (hp : d ≥ 32) : OK 10 ([.str s, .int .i64 d]) ([]) (.tuple [.list true 0 [], .int .i64 0, .int .i64 33]) (none) := by
 refine ai (C := cx [(32, nk)]) (aj ⟨qD, trivial⟩) (fn := Tryz.f10) rfl rfl rfl rfl fun hw hs => ?_
 repeat' ((conv => whnf); first | apply a9 | (apply ao <;> intro h))
 all_goals try conv => whnf
 all_goals try (refine a8.mk ?_; try dsimp only)
 all_goals first
  | (exfalso; omega)
  | (show a7 _ _ _ _ _ _
     refine a7.mk [] ?_ <;> (repeat' first | trivial)
     done)
def sm_cstD : Sm := fun args σ => match args, σ with
 | [.str s, .int .i64 d], [] => some (d ≥ 32, .tuple [.list true 0 [], .int .i64 0, .int .i64 33], none)
 | _, _ => none
theorem xU (k : Nat) : aa 34 (nm k) := Fl k (Fi k (Fy k (xX k)))
theorem wO (s : List UInt8) (d : Int) (hp : 0 ≤ d ∧ s.length ≤ 1000000000) : OK 10 ([.str s, .int .i64 d]) ([]) (.tuple [dt (c7 d s).2.2, .int .i64 ((c7 d s).2.1 : Nat), .int .i64 (c7 d s).1]) (none) := by
 unfold c7
 by_cases h : d ≥ 32
 . rw [if_pos h]
   exact (Cn s d h).res (Wk.tuple (aC.cons (Wk.nil (.inl rfl)) (aC.refl _)))
 . rw [if_neg h]
   exact (DI (31 - d).toNat (xU _) s d ⟨hp.2, by omega⟩).res (sV_wk Hl)
def uw : Sm := fun args σ => match args, σ with
 | [.str s, .int .i64 d], [] => some (0 ≤ d ∧ s.length ≤ 1000000000, .tuple [dt (c7 d s).2.2, .int .i64 ((c7 d s).2.1 : Nat), .int .i64 (c7 d s).1], none)
 | _, _ => none
theorem k_cst : aa 10 uw := by
 intro args sg pre x r he hp
 unfold uw at he
 split at he <;> cases he
 . exact wO (hp := hp) ..
def rS (f : Fd) (c : Cu) : Fd := if c.aL.toNat = 1 then ⟨f.id, 1, 1, f.bits, f.text, f.raw⟩ else ⟨f.id, 2, f.num, f.bits, f.text, f.raw⟩
theorem IB (i k : Int) (c : Cu) : rS ⟨i, k, 0, 0, [], []⟩ c = pH i c := rfl
theorem Aa {c : Cu} (h : c.ok) : Kp c (kD c) := by
 have hb := Kp.pass h 1
 unfold kD
 split
 . exact hb.trans (Kp.fail hb.1 3)
 . exact hb
theorem Dr (s : List UInt8) (f : Fd) (c : Cu) (hp : c.ok) : OK 92 ([.ptr 0 0, .ptr 1 0]) ([.cells [.str s, .ptr 2 0], .cells (gO f), .cells (eC c)]) (.tuple []) (some [.cells [.str s, .ptr 2 0], .cells (gO (rS f c)), .cells (eC (kD c))]) := by
 refine ai (C := cx [(64, hC), (66, ff)]) (aj ⟨iZ, fY, trivial⟩) (fn := Tryz.f92) rfl rfl rfl rfl fun hw hs => ?_
 repeat' ((conv => whnf); first | apply a9 | (apply ao <;> intro h))
 all_goals try conv => whnf
 all_goals try (refine a8.mk ?_; try dsimp only)
 all_goals (try simp only [bM] at *)
 all_goals first | refine stay ?_ | trivial | skip
 all_goals
  unfold kD rS
  repeat (first | rw [if_pos (by omega)] | rw [if_neg (by omega)])
  refine a7.mk [] ?_ <;> (repeat' first | trivial)
def uR : Sm := fun args σ => match args, σ with
 | [.ptr 0 0, .ptr 1 0], [.cells [.str s, .ptr 2 0], .cells ([.int .i64 i_f, .int .u8 k_f, .int .i64 n_f, .int .u64 b_f, .str t_f, .str r_f]), .cells ([.str s_c, .int .i64 (.ofNat a_c), .int .i64 (.ofNat e_c), .int .i64 c_c])] => some (True ∧ (True ∧ ((Cu.mk s_c a_c e_c c_c).ok)), .tuple [], some [.cells [.str s, .ptr 2 0], .cells (gO (rS (Fd.mk i_f k_f n_f b_f t_f r_f) (Cu.mk s_c a_c e_c c_c))), .cells (eC (kD (Cu.mk s_c a_c e_c c_c)))])
 | _, _ => none
theorem Fk : aa 92 uR := by
 intro args sg pre x r he hp
 unfold uR at he
 split at he <;> cases he
 . rw [bG (hp).1]; rw [Ak (hp.2).1]; exact Dr (hp := hp.2.2) ..
theorem sM {d : Nat} {k : Int} : ∀ (m i : Nat) (c : Cu) (acc : List Fd), (ey d k m i c acc).1.length ≤ acc.length + m
 | 0, _, _, _ => Nat.le_refl _
 | m + 1, i, c, acc => by
   rw [ey]
   repeat' split
   . exact Nat.le_add_right _ _
   . have := sM (d := d) (k := k) m (i + 1) (kD c) (acc ++ [pH i c])
     rw [List.length_append, List.length_singleton] at this; omega
   . have := sM (d := d) (k := k) m (i + 1) (c8 d ⟨i, k, 0, 0, [], []⟩ c).2 (acc ++ [(c8 d ⟨i, k, 0, 0, [], []⟩ c).1])
     rw [List.length_append, List.length_singleton] at this; omega
structure i4 (d : Nat) (k : Int) (n : Nat) (c0 : Cu) (x : Nat × Cu × List Fd) : Prop where
 i : x.1 ≤ n
 l : x.2.2.length = x.1
 kp : Kp c0 x.2.1
 r : ey d k (n - x.1) x.1 x.2.1 x.2.2 = ey d k n 0 c0 []
theorem i4.z {d : Nat} {k : Int} {n : Nat} {c : Cu} (h : c.ok) : i4 d k n c (0, c, []) := ⟨Nat.zero_le _, rfl, Kp.rfl h, rfl⟩
theorem i4.e {d : Nat} {k : Int} {n i : Nat} {c x : Cu} {l : List Fd} (h : i4 d k n c (i, x, l)) (hi : ¬ (i : Int) < n ∨ x.c ≠ 0) : ey d k n 0 c [] = (l, x) := by
 rw [← h.r]
 show ey d k (n - i) i x l = (l, x)
 have := h.i
 dsimp only at this
 rcases hi with hi | hi
 . rw [show n - i = 0 by omega]; rfl
 . cases hn : n - i with
   | zero => rfl
   | succ m => rw [ey, if_pos hi]
theorem i4.s {d : Nat} {k : Int} {n i : Nat} {c x : Cu} {l : List Fd} (h : i4 d k n c (i, x, l)) (hi : (i : Int) < n) (h0 : x.c = 0) :
   (k = 1 ∨ k = 2 → i4 d k n c (i + 1, kD x, l ++ [pH i x])) ∧ (¬ (k = 1 ∨ k = 2) → i4 d k n c (i + 1, (c8 d ⟨i, k, 0, 0, [], []⟩ x).2, l ++ [(c8 d ⟨i, k, 0, 0, [], []⟩ x).1])) := by
 have hr := h.r
 have hk := h.kp
 have hl := h.l
 dsimp only at hr hk hl
 obtain ⟨m, hm⟩ : ∃ m, n - i = m + 1 := ⟨n - i - 1, by omega⟩
 rw [hm, ey, if_neg (show ¬ x.c ≠ 0 from fun z => z h0)] at hr
 have e : n - (i + 1) = m := by omega
 refine ⟨fun q => ?_, fun q => ?_⟩
 . rw [if_pos q] at hr
   exact ⟨by show i + 1 ≤ n; omega, by show (l ++ [_]).length = i + 1; rw [List.length_append, List.length_singleton, hl], hk.trans (Aa hk.1), by rw [← hr]; show ey d k (n - (i + 1)) (i + 1) _ _ = _; rw [e]⟩
 . rw [if_neg q] at hr
   exact ⟨by show i + 1 ≤ n; omega, by show (l ++ [_]).length = i + 1; rw [List.length_append, List.length_singleton, hl], hk.trans (Kp.c8 hk.1 d _), by rw [← hr]; show ey d k (n - (i + 1)) (i + 1) _ _ = _; rw [e]⟩
theorem ED {r : List Fd × Cu} (h : (eN r).1 ≠ 0) : (eN r).2 = [] := by
 unfold eN at h ⊢
 split
 . rfl
 . rename_i q; rw [if_neg q] at h; exact absurd rfl h
theorem CW (k : Nat) (s : List UInt8) (d : Int) (hp : s.length ≤ 1000000000 ∧ d + k + 1 = 32) : OK 42 [.str s, .int .i64 d] [] (iV (eN (ey k (Cu.new s).bm.1.2 (Cu.new s).bm.1.1.toNat 0 (Cu.new s).bm.2 []))) none := by
 refine ai (C := cx [(32, nk), (91, rq), (62, lL), (92, uR), (34, nm k), (35, fK), (93, uk)]) (aj ⟨qD, xQ, od, Fk, xU k, gu, ET, trivial⟩) (fn := Tryz.f42) rfl rfl rfl rfl fun hw _ => ?_
 obtain ⟨hl, hd⟩ := hp
 have hd1 : -9223372036854775808 ≤ d := hw.2.1.1
 have hok := oK s
 have hh := Kp.bm hok
 have hb := tn (.new s)
 generalize hq : (Cu.new s).bm.1.2 = q at *
 generalize hn : (Cu.new s).bm.1.1 = n at *
 generalize hc : (Cu.new s).bm.2 = c at *
 obtain ⟨n, rfl⟩ := Int.eq_ofNat_of_zero_le hb.1.1
 rw [Int.toNat_natCast]
 repeat' ((conv => whnf); first | apply a9 | (apply ao <;> intro h))
 all_goals try conv => whnf
 all_goals try (refine a8.mk ?_; try dsimp only)
 all_goals (try simp only [hq, hn, hc] at *)
 . exfalso; omega
 . exact ⟨trivial, hok⟩
 refine br.mk (Nat × Cu × List Fd) (i4 k q n c) (fun x => ⟨62, [(1, .int .i64 d), (6, .ptr 1 0), (7, .int .i64 n), (8, .int .u8 q), (9, .buf 2), (10, .int .i64 x.1)], [.cells (eC x.2.1), .cells [.str s, .ptr 0 0], .buf 6 0 (x.2.2.map cM)], [2]⟩) (fun x => n - x.1) [.tm 9 6] (0, c, []) (i4.z hh.1) ?_ (fun ⟨i, x, l⟩ hI _ _ => ?_)
 . refine Go.VG.Sub.mk rfl ?_ ?_ ?_ ?_ <;> (repeat' first | trivial)
 have hi := hI.i
 have hx := hI.kp
 have hlen := hI.l
 have hS := fun h h' => hI.s h h'
 have hE := fun h => hI.e h
 dsimp only at hi hx hlen
 have hxs : x.s = s := by rw [hx.2.1, hh.2.1]; rfl
 have hqb : ((byte q).toNat : Int) = q := dc (by omega)
 have h1n : (byte 1).toNat = 1 := rfl
 repeat' ((conv => whnf); first | apply a9 | apply aQ | (apply ao <;> intro h))
 all_goals try conv => whnf
 all_goals try (refine a8.mk ?_; try dsimp only)
 all_goals (try simp only [bM, ga, IB] at *)
 all_goals first | refine stay ?_ | trivial | (simp (discharger := omega) [-List.getD_eq_getElem?_getD, wR] <;> omega) | skip
 all_goals first
  | exact ⟨trivial, trivial, hx.1⟩
  | exact ⟨trivial, hx.1⟩
  | exact ⟨trivial, trivial, hx.1, by rw [hxs]; omega, by rw [bS]; omega, hxs⟩
  | skip
 . have hN := (hS (by assumption) (by assumption)).1 (by omega)
   refine ⟨[], (i + 1, _, _), hN, ?_, by show n - (i + 1) < n - i; omega⟩
   refine Go.VG.Sub.mk rfl ?_ ?_ ?_ ?_ <;> (repeat' first | trivial | apply ah | apply ax | apply aG)
   . (simp (discharger := omega) only [wR]; omega)
   . simp
 . have hN := (hS (by assumption) (by assumption)).2 (by omega)
   refine ⟨[], (i + 1, _, _), hN, ?_, by show n - (i + 1) < n - i; omega⟩
   refine Go.VG.Sub.mk rfl ?_ ?_ ?_ ?_ <;> (repeat' first | trivial | apply ah | apply ax | apply aG)
   . (simp (discharger := omega) only [wR]; omega)
   . simp
 . rw [hE (.inr (by assumption))]
   have e : iV (eN (l, x)) = .tuple [.list false 6 (l.map cM), .int .i64 0] := by
    unfold eN
    dsimp only
    rw [if_neg (show ¬ x.fin ≠ 0 from fun z => z (by assumption))]; rfl
   rw [e]
   refine a7.mk [.bD 2] ?_ <;> (repeat' first | trivial)
 . rw [hE (.inr (by assumption))]
   have e : iV (eN (l, x)) = .tuple [.list true 0 [], .int .i64 x.fin] := by
    unfold eN
    dsimp only
    rw [if_pos (show x.fin ≠ 0 by assumption)]
    unfold iV
    rw [if_neg (by assumption)]
   rw [e]
   refine a7.mk [] ?_ <;> (repeat' first | trivial)
 . rw [hE (.inl (by assumption))]
   have e : iV (eN (l, x)) = .tuple [.list false 6 (l.map cM), .int .i64 0] := by
    unfold eN
    dsimp only
    rw [if_neg (show ¬ x.fin ≠ 0 from fun z => z (by assumption))]; rfl
   rw [e]
   refine a7.mk [.bD 2] ?_ <;> (repeat' first | trivial)
 . rw [hE (.inl (by assumption))]
   have e : iV (eN (l, x)) = .tuple [.list true 0 [], .int .i64 x.fin] := by
    unfold eN
    dsimp only
    rw [if_pos (show x.fin ≠ 0 by assumption)]
    unfold iV
    rw [if_neg (by assumption)]
   rw [e]
   refine a7.mk [] ?_ <;> (repeat' first | trivial)
end Go.Proofs.YtipejldppicijaaGreatDoor
