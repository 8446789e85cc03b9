/-
  A part of the proof.
-/
import Derived.Test.YtipejldppicijaaGreatDoorCVd
import Derived.Test.YtipejldppicijaaGreatDoorCRt
import Derived.Test.YtipejldppicijaaGreatDoorCWb
set_option linter.unusedSimpArgs false
set_option linter.unusedVariables false
set_option maxHeartbeats 4000000
namespace Go.Proofs.YtipejldppicijaaGreatDoor
open Go Go.VG
set_option maxRecDepth 100000
def uc (u : Nat) : Int := if u ≥ 128 then (u : Int) - 256 else u
theorem N4 : ∀ n : Nat, n < 256 → bn .i64 (IntKind.i64.wrap (jg .u64 (n : Int) 56)) 56 = uc n := by decide
def Cu.dL (c : Cu) (b : Int) : Int × Cu :=
 if c.aO.2.c ≠ 0 then (0, c.aO.2) else if bc (fC c.aO.1) b ≠ 0 then (0, c.aO.2.fail 4) else (fC c.aO.1, c.aO.2)
def jT (k : Nat) (q : Int) (c : Cu) : List UInt8 := if (aX k q c).c ≠ 0 then [] else (c.s.take (aX k q c).p).drop c.p
def bS (k : Nat) (f : Fd) (c : Cu) : Fd × Cu :=
 if f.k = 1 then ({ f with num := IntKind.i64.wrap (f.num + 1) }, c) else if f.k = 2 then (f, c)
 else if f.k = 3 then ({ f with num := uc c.aQ.toNat }, c.byte) else if f.k = 4 then ({ f with num := (c.dL 16).1 }, (c.dL 16).2)
 else if f.k = 5 then ({ f with num := (c.dL 32).1 }, (c.dL 32).2) else if f.k = 6 then ({ f with num := (c.dL 64).1 }, (c.dL 64).2)
 else if f.k = 7 then ({ f with bits := c.ld.1 }, c.ld.2) else if f.k = 8 then ({ f with text := c.text.1 }, c.text.2)
 else ({ f with raw := jT k f.k c }, aX k f.k c)
theorem Ir (n b : Int) : bc n b = 0 ∨ bc n b = 4 := by unfold bc; split <;> simp
theorem Ip {c : Cu} (h : ¬ c.c = 0) (k : Int) : c.fail k = c := by unfold Cu.fail; rw [if_neg h]
theorem Kp.dL {c : Cu} (h : c.ok) (b : Int) : Kp c (c.dL b).2 := by
 have hv := Kp.aO h
 unfold Cu.dL
 repeat' split
 . exact hv
 . exact hv.trans (Kp.fail hv.1 4)
 . exact hv
theorem Kp.bS {c : Cu} (h : c.ok) (k : Nat) (f : Fd) : Kp c (bS k f c).2 := by
 unfold Go.Proofs.YtipejldppicijaaGreatDoor.bS
 repeat' split
 . exact Kp.rfl h
 . exact Kp.rfl h
 . exact Kp.pass h 1
 . exact Kp.dL h 16
 . exact Kp.dL h 32
 . exact Kp.dL h 64
 . exact Kp.pass h 8
 . exact Kp.text h
 . exact qD k _ c h
theorem I9 (q : Int) (hp : 0 ≤ q ∧ q < 256) : OK 69 ([.int .u64 q, .int .i64 8]) ([]) (.int .i64 (uc q.toNat)) (none) := by
 refine af (C := cx []) (ah trivial) (fn := Tryz.f69) rfl rfl rfl rfl fun hw hs => ?_
 have h := N4 q.toNat (by omega)
 rw [Int.toNat_of_nonneg hp.1] at h
 repeat' ((conv => whnf); apply a9)
 all_goals try conv => whnf
 all_goals try (refine a8.mk ?_; try dsimp only)
 all_goals first | refine stay ?_ | trivial | skip
 refine a7.mk [] ?_ <;> (repeat' first | trivial | apply ab | apply au)
 all_goals
  rw [show IntKind.i64.wrap (64 - 8) = 56 by decide]
  exact h
def xI : Sm := fun args σ => match args, σ with
 | [.int .u64 q, .int .i64 8], [] => some (0 ≤ q ∧ q < 256, .int .i64 (uc q.toNat), none)
 | _, _ => none
theorem JS : aa 69 xI := by
 intro args sg pre x r he hp
 unfold xI at he
 split at he <;> cases he
 . exact I9 (hp := hp) ..
theorem HA (s : List UInt8) (c : Cu) (b : Int) (hp : c.ok ∧ (b = 16 ∨ b = 32 ∨ b = 64)) : OK 70 ([.ptr 0 0, .int .i64 b]) ([.cells [.str s, .ptr 1 0], .cells (eC c)]) (.int .i64 (c.dL b).1) (some [.cells [.str s, .ptr 1 0], .cells (eC (c.dL b).2)]) := by
 refine af (C := cx [(68, kb), (67, tN), (117, tL), (66, fX), (35, gD)]) (ah ⟨mz, AZ, AX, gK, ib, trivial⟩) (fn := Tryz.f70) rfl rfl rfl rfl fun hw hs => ?_
 obtain ⟨hp, hb⟩ := hp
 have h1 := @ra c
 have h2 := N9 h1
 have h4 := Ir (fC c.aO.1) b
 repeat' ((conv => whnf); first | apply a9 | apply aJ | (apply al <;> intro h))
 all_goals try conv => whnf
 all_goals try (refine a8.mk ?_; try dsimp only)
 all_goals (try simp only [Int.toNat_natCast] at *)
 all_goals (try simp only [cg] at *)
 all_goals first | refine stay ?_ | trivial | omega | skip
 . unfold Cu.dL
   rw [if_neg (by omega), if_neg (by omega)]
   refine a7.mk [] ?_ <;> (repeat' first | trivial)
 . unfold Cu.dL
   rw [if_pos (by omega)]
   refine a7.mk [] ?_ <;> (repeat' first | trivial)
 . exfalso; exact nE (c := c.aO.2) (k := bc (fC c.aO.1) b) (by assumption) (by assumption)
 . have e4 : bc (fC c.aO.1) b = 4 := by omega
   unfold Cu.dL
   rw [e4]
   by_cases q : c.aO.2.c = 0
   . rw [if_neg (by omega), if_pos (by decide)]
     refine a7.mk [] ?_ <;> (repeat' first | trivial)
   . rw [if_pos q, Ip q]
     refine a7.mk [] ?_ <;> (repeat' first | trivial)
def xx : Sm := fun args σ => match args, σ with
 | [.ptr 0 0, .int .i64 b], [.cells [.str s, .ptr 1 0], .cells ([.str s_c, .int .i64 (.ofNat a_c), .int .i64 (.ofNat e_c), .int .i64 c_c])] => some (True ∧ ((Cu.mk s_c a_c e_c c_c).ok ∧ (b = 16 ∨ b = 32 ∨ b = 64)), .int .i64 ((Cu.mk s_c a_c e_c c_c).dL b).1, some [.cells [.str s, .ptr 1 0], .cells (eC ((Cu.mk s_c a_c e_c c_c).dL b).2)])
 | _, _ => none
theorem Jy : aa 70 xx := by
 intro args sg pre x r he hp
 unfold xx at he
 split at he <;> cases he
 . rw [bT (hp).1]; exact HA (hp := hp.2) ..
theorem HC (k : Nat) (hv : aa 125 (qV k)) (s : List UInt8) (c : Cu) (q d : Int) (hp : c.ok ∧ c.s.length ≤ 9223372036854775807 ∧ d + k = 32 ∧ c.s = s) : OK 73 ([.ptr 0 0, .int .u8 q, .int .i64 d]) ([.cells [.str s, .ptr 1 0], .cells (eC c)]) (.str (jT k q c)) (some [.cells [.str s, .ptr 1 0], .cells (eC (aX k q c))]) := by
 refine af (C := cx [(36, sR), (125, (qV k)), (35, gD)]) (ah ⟨Al, hv, ib, trivial⟩) (fn := Tryz.f73) rfl rfl rfl rfl fun hw hs => ?_
 obtain ⟨h1, h2, h3, rfl⟩ := hp
 have hk := qD k q c h1
 have q1 := hk.1.1
 have q2 := hk.1.2
 have q3 := hk.2.2.2
 have q4 := hk.2.1
 repeat' ((conv => whnf); first | apply a9 | apply aJ | (apply al <;> intro h))
 all_goals try conv => whnf
 all_goals try (refine a8.mk ?_; try dsimp only)
 all_goals (try simp only [cg] at *)
 all_goals first | refine stay ?_ | trivial | skip
 all_goals first
  | exact ⟨by omega, by omega, by rw [q4] at q2; omega⟩
  | exact ⟨trivial, h1, h2, h3⟩
  | exact ⟨h1, h2, h3⟩
  | skip
 . unfold jT
   rw [if_neg (by omega)]
   refine a7.mk [] ?_ <;> (repeat' first | trivial)
 . unfold jT
   rw [if_pos (by assumption)]
   refine a7.mk [] ?_ <;> (repeat' first | trivial)
def qT (k : Nat) : Sm := fun args σ => match args, σ with
 | [.ptr 0 0, .int .u8 q, .int .i64 d], [.cells [.str s, .ptr 1 0], .cells ([.str s_c, .int .i64 (.ofNat a_c), .int .i64 (.ofNat e_c), .int .i64 c_c])] => some (True ∧ ((Cu.mk s_c a_c e_c c_c).ok ∧ (Cu.mk s_c a_c e_c c_c).s.length ≤ 9223372036854775807 ∧ d + k = 32 ∧ (Cu.mk s_c a_c e_c c_c).s = s), .str (jT k q (Cu.mk s_c a_c e_c c_c)), some [.cells [.str s, .ptr 1 0], .cells (eC (aX k q (Cu.mk s_c a_c e_c c_c)))])
 | _, _ => none
theorem Jz (k : Nat) (hv : aa 125 (qV k)) : aa 73 (qT k) := by
 intro args sg pre x r he hp
 unfold qT at he
 split at he <;> cases he
 . rw [bT (hp).1]; exact HC (hv := hv) (hp := hp.2) ..
theorem HF (k : Nat) (hr : aa 73 (qT k)) (s : List UInt8) (f : Fd) (d : Int) (c : Cu) (hp : c.ok ∧ c.s.length ≤ 9223372036854775807 ∧ d + k = 32 ∧ c.s = s) : OK 34 ([.ptr 0 0, .ptr 1 0, .int .i64 d]) ([.cells [.str s, .ptr 2 0], .cells (iF f), .cells (eC c)]) (.tuple []) (some [.cells [.str s, .ptr 2 0], .cells (iF (bS k f c).1), .cells (eC (bS k f c).2)]) := by
 refine af (C := cx [(64, iW), (69, xI), (70, xx), (71, xw), (72, xy), (73, (qT k))]) (ah ⟨jL, JS, Jy, Jx, JA, hr, trivial⟩) (fn := Tryz.f34) rfl rfl rfl rfl fun hw hs => ?_
 obtain ⟨h1, h2, h3, rfl⟩ := hp
 have h256 := c.aQ.toNat_lt
 have hwb : IntKind.u64.wrap (c.aQ.toNat : Int) = (c.aQ.toNat : Int) := by rw [dN]; omega
 repeat' ((conv => whnf); first | apply a9 | (apply al <;> intro h))
 all_goals try conv => whnf
 all_goals try (refine a8.mk ?_; try dsimp only)
 all_goals (try simp only [hwb] at *)
 all_goals (try simp only [cg] at *)
 all_goals first | refine stay ?_ | trivial | omega | skip
 all_goals first
  | exact ⟨trivial, h1, h2, h3, rfl⟩
  | exact ⟨trivial, h1, .inl rfl⟩
  | exact ⟨trivial, h1, .inr (.inl rfl)⟩
  | exact ⟨trivial, h1, .inr (.inr rfl)⟩
  | exact ⟨trivial, h1, h2⟩
  | exact ⟨trivial, h1⟩
  | exact ⟨by omega, by omega⟩
  | (exfalso; omega)
  | skip
 all_goals
  try simp only [Int.toNat_natCast]
  have he : bS k f c = bS k f c := rfl
  conv at he => rhs; unfold bS
  repeat (first | rw [if_pos (by first | assumption | omega)] at he | rw [if_neg (by first | assumption | omega)] at he)
  rw [he]
  refine a7.mk [] ?_ <;> (repeat' first | trivial)
def oC (k : Nat) : Sm := fun args σ => match args, σ with
 | [.ptr 0 0, .ptr 1 0, .int .i64 d], [.cells [.str s, .ptr 2 0], .cells ([.int .i64 i_f, .int .u8 k_f, .int .i64 n_f, .int .u64 b_f, .str t_f, .str r_f]), .cells ([.str s_c, .int .i64 (.ofNat a_c), .int .i64 (.ofNat e_c), .int .i64 c_c])] => some (True ∧ (True ∧ ((Cu.mk s_c a_c e_c c_c).ok ∧ (Cu.mk s_c a_c e_c c_c).s.length ≤ 9223372036854775807 ∧ d + k = 32 ∧ (Cu.mk s_c a_c e_c c_c).s = s)), .tuple [], some [.cells [.str s, .ptr 2 0], .cells (iF (bS k (Fd.mk i_f k_f n_f b_f t_f r_f) (Cu.mk s_c a_c e_c c_c)).1), .cells (eC (bS k (Fd.mk i_f k_f n_f b_f t_f r_f) (Cu.mk s_c a_c e_c c_c)).2)])
 | _, _ => none
theorem JC (k : Nat) (hr : aa 73 (qT k)) : aa 34 (oC k) := by
 intro args sg pre x r he hp
 unfold oC at he
 split at he <;> cases he
 . rw [bT (hp).1]; rw [Dv (hp.2).1]; exact HF (hr := hr) (hp := hp.2.2) ..
end Go.Proofs.YtipejldppicijaaGreatDoor
namespace Go.Proofs.YtipejldppicijaaGreatDoor
open Go Go.VG
set_option maxRecDepth 100000
end Go.Proofs.YtipejldppicijaaGreatDoor
namespace Go.Proofs.YtipejldppicijaaGreatDoor
open Go Go.VG
set_option maxRecDepth 100000
end Go.Proofs.YtipejldppicijaaGreatDoor
namespace Go.Proofs.YtipejldppicijaaGreatDoor
open Go Go.VG
set_option maxRecDepth 100000
end Go.Proofs.YtipejldppicijaaGreatDoor
namespace Go.Proofs.YtipejldppicijaaGreatDoor
open Go Go.VG
set_option maxRecDepth 100000
def gz (k : Nat) : Nat → Cu → Int → List Fd → Option (List Fd × Cu)
 | 0, _, _, _ => none
 | n + 1, c, last, acc =>
   if (c.aK last).1.2 = 0 then some (acc, (c.aK last).2)
   else gz k n (bS k ⟨(c.aK last).1.1, (c.aK last).1.2, 0, 0, [], []⟩ (c.aK last).2).2 (c.aK last).1.1 (acc ++ [(bS k ⟨(c.aK last).1.1, (c.aK last).1.2, 0, 0, [], []⟩ (c.aK last).2).1])
def rp (k : Nat) (s : List UInt8) : Option (List Fd × Cu) := gz k (s.length + 1) (Cu.new s) 0 []
end Go.Proofs.YtipejldppicijaaGreatDoor
namespace Go.Proofs.YtipejldppicijaaGreatDoor
open Go Go.VG
set_option maxRecDepth 100000
end Go.Proofs.YtipejldppicijaaGreatDoor
namespace Go.Proofs.YtipejldppicijaaGreatDoor
open Go Go.VG
set_option maxRecDepth 100000
instance : Inhabited Fd := ⟨⟨0, 0, 0, 0, [], []⟩⟩
abbrev SR : Type := Int × Nat × List Fd
def ik : Option (List Fd × Cu) → SR
 | some r => if r.2.c = 0 then (0, r.2.p, r.1) else (r.2.c, 0, [])
 | none => (1, 0, [])
def bK (d : Int) (s : List UInt8) : SR := if d ≥ 32 then (33, 0, []) else ik (rp (31 - d).toNat s)
theorem fld_k {c : Cu} {a : Int} (h : (c.aK a).1.2 ≠ 0) : 1 ≤ (c.aK a).1.2 ∧ (c.aK a).1.2 ≤ 12 := by
 have h256 := c.aQ.toNat_lt
 have hb : ((Go.VG.byte ((c.aQ.toNat % 16 : Nat) : Int)).toNat : Int) = ((c.aQ.toNat % 16 : Nat) : Int) := cE (by omega)
 unfold Cu.aK fH at h ⊢
 repeat' split at h
 all_goals first
  | exact absurd rfl h
  | skip
 all_goals
  have := eD.1 ‹fp (Go.VG.byte ((c.aQ.toNat % 16 : Nat) : Int)) = true›
  repeat' split
  all_goals first
   | contradiction
   | (dsimp only; omega)
theorem Cf {d : Nat} : ∀ (n : Nat) (c : Cu) (a : Int) (acc : List Fd), c.ok → c.e - c.p < n → ∃ r, gz d n c a acc = some r
 | 0, _, _, _, _, h => absurd h (Nat.not_lt_zero _)
 | n + 1, c, a, acc, hc, h => by
   rw [gz]
   by_cases g : (c.aK a).1.2 = 0
   . rw [if_pos g]; exact ⟨_, rfl⟩
   . rw [if_neg g]
     have hp := (zD hc g).1
     have hf := Kp.aK hc a
     have hv := Kp.bS hf.1 d ⟨(c.aK a).1.1, (c.aK a).1.2, 0, 0, [], []⟩
     have q1 := hv.2.2.1
     have q2 := hf.2.2.1
     have q3 := hv.2.2.2
     have q4 := hf.1.1
     refine Cf n _ _ _ hv.1 (by omega)
theorem ur (d : Nat) (s : List UInt8) : ∃ r, rp d s = some r := Cf _ _ _ _ (qf s) (by show s.length - 0 < s.length + 1; omega)
def lN (c : Cu) : Cu := if c.aQ.toNat > 2 then c.byte.fail 3 else c.byte
def r7 (i : Int) (c : Cu) : Fd := if c.aQ.toNat = 1 then ⟨i, 1, 1, 0, [], []⟩ else ⟨i, 2, 0, 0, [], []⟩
def ep (d : Nat) (k : Int) : Nat → Nat → Cu → List Fd → List Fd × Cu
 | 0, _, c, acc => (acc, c)
 | m + 1, i, c, acc => if c.c ≠ 0 then (acc, c) else if k = 1 ∨ k = 2 then ep d k m (i + 1) (lN c) (acc ++ [r7 i c]) else ep d k m (i + 1) (bS d ⟨i, k, 0, 0, [], []⟩ c).2 (acc ++ [(bS d ⟨i, k, 0, 0, [], []⟩ c).1])
abbrev IR : Type := Int × List Fd
def fj (r : List Fd × Cu) : IR := if r.2.fin ≠ 0 then (r.2.fin, []) else (0, r.1)
def cr (d : Int) (s : List UInt8) : IR := if d ≥ 32 then (33, []) else fj (ep (31 - d).toNat (Cu.new s).bf.1.2 (Cu.new s).bf.1.1.toNat 0 (Cu.new s).bf.2 [])
def l9 (l : List Fd) (id k : Int) : Nat → Option Fd
 | 0 => none
 | m + 1 => if (l.getD m default).id = id ∧ eS (byte (l.getD m default).k) (byte k) = true then some (l.getD m default) else l9 l id k m
def bI (l : List Fd) (id k : Int) : Option Fd := l9 l id k l.length
def d5 (o : Option Fd) : Fd := o.getD ⟨0, 0, 0, 0, [], []⟩
end Go.Proofs.YtipejldppicijaaGreatDoor
namespace Go.Proofs.YtipejldppicijaaGreatDoor
open Go Go.VG
set_option maxRecDepth 100000
-- #name r21Value truchmanref21.Value
end Go.Proofs.YtipejldppicijaaGreatDoor
namespace Go.Proofs.YtipejldppicijaaGreatDoor
open Go Go.VG
set_option maxRecDepth 100000
def cn : V → Fd
 | .agg [.int _ i, .int _ k, .int _ n, .int _ b, .str t, .str r] => ⟨i, k, n, b, t, r⟩
 | _ => default
theorem db (l : List Fd) : (l.map cQ).map cn = l := by
 induction l with
 | nil => rfl
 | cons f l ih => rw [List.map_cons, List.map_cons, ih]; rfl
abbrev dT (l : List Fd) : V := .list false 6 (l.map cQ)
theorem oK {l : List V} (h : l = (l.map cn).map cQ) : V.list false 6 l = dT (l.map cn) := congrArg (V.list false 6) h
theorem dF (l : List Fd) : l.map cQ = ((l.map cQ).map cn).map cQ := by rw [db]
def sV (r : SR) : V := if r.1 = 0 then .tuple [.list false 6 (r.2.2.map cQ), .int .i64 r.2.1, .int .i64 0] else .tuple [.list true 0 [], .int .i64 0, .int .i64 r.1]
theorem Lr {o : Option (List Fd × Cu)} (h : (ik o).1 ≠ 0) : (ik o).2 = (0, []) := by
 unfold ik at h ⊢
 split
 . dsimp only at h
   split
   . rename_i q; rw [if_pos q] at h; exact absurd rfl h
   . rfl
 . rfl
theorem sV_wk {r : SR} (h : r.1 ≠ 0 → r.2 = (0, [])) : Wk (sV r) (.tuple [dT r.2.2, .int .i64 r.2.1, .int .i64 r.1]) := by
 unfold sV
 by_cases q : r.1 = 0
 . rw [if_pos q, q]; exact Wk.refl _
 . rw [if_neg q, h q]
   exact Wk.tuple (aq.cons (Wk.nil (.inl rfl)) (aq.refl _))
def iV (r : IR) : V := if r.1 = 0 then .tuple [.list false 6 (r.2.map cQ), .int .i64 0] else .tuple [.list true 0 [], .int .i64 r.1]
theorem iV_wk {r : IR} (h : r.1 ≠ 0 → r.2 = []) : Wk (iV r) (.tuple [dT r.2, .int .i64 r.1]) := by
 unfold iV
 by_cases q : r.1 = 0
 . rw [if_pos q, q]; exact Wk.refl _
 . rw [if_neg q, h q]
   exact Wk.tuple (aq.cons (Wk.nil (.inl rfl)) (aq.refl _))
theorem HU (k : Nat) (hv : aa 34 (oC k)) (s : List UInt8) (d : Int) (hp : s.length ≤ 1000000000 ∧ d + k + 1 = 32) : OK 10 [.str s, .int .i64 d] [] (sV (ik (rp k s))) none := by
 refine af (C := cx [(32, oB), (33, tb), (34, oC k), (35, gD), (36, sR)]) (ah ⟨s4, Au, hv, ib, Al, trivial⟩) (fn := Tryz.f10) rfl rfl rfl rfl fun hw _ => ?_
 obtain ⟨hl, hd⟩ := hp
 obtain ⟨r, hr⟩ := ur k s
 have hd1 : -9223372036854775808 ≤ d := hw.2.1.1
 rw [hr]
 repeat' ((conv => whnf); first | apply a9 | (apply al <;> intro h))
 all_goals try conv => whnf
 all_goals try (refine a8.mk ?_; try dsimp only)
 . exfalso; omega
 refine bd.mk (Nat × Cu × Int × List Fd) (fun (n, c, last, acc) => c.ok ∧ c.s = s ∧ acc.length + n ≤ s.length + 1 ∧ gz k n c last acc = some r) (fun (n, c, last, acc) => ⟨56, [(1, .int .i64 d), (4, .buf 2), (7, .ptr 1 0), (8, .int .i64 last)], [.cells (eC c), .cells [.str s, .ptr 0 0], .buf 6 0 (acc.map cQ)], [2]⟩) (fun x => x.1) [.tm 4 6] (s.length + 1, .new s, 0, []) ⟨qf s, rfl, by simp, hr⟩ ?_ (fun ⟨n, c, last, acc⟩ ⟨h1, h2, h3, h4⟩ _ _ => ?_)
 . refine Go.VG.Sub.mk rfl ?_ ?_ ?_ ?_ <;> (repeat' first | trivial)
 cases n with
 | zero => rw [gz] at h4; cases h4
 | succ n =>
 rw [gz] at h4
 have hfo := Kp.aK h1 last
 have hvo := Kp.bS hfo.1 k ⟨(c.aK last).1.1, (c.aK last).1.2, 0, 0, [], []⟩
 repeat' ((conv => whnf); first | apply a9 | apply aJ | (apply al <;> intro h))
 all_goals try conv => whnf
 all_goals try (refine a8.mk ?_; try dsimp only)
 all_goals (try simp only [cg] at *)
 all_goals first | refine stay ?_ | trivial | (simp (discharger := omega) [-List.getD_eq_getElem?_getD, wR] <;> omega) | skip
 . rw [if_pos (by assumption)] at h4
   cases h4
   have e : sV (ik (some (acc, (c.aK last).2))) = .tuple [.list false 6 (acc.map cQ), .int .i64 (c.aK last).2.p, .int .i64 0] := by
    unfold ik
    dsimp only
    rw [if_pos (by assumption)]; rfl
   rw [e]
   refine a7.mk [.bH 2] ?_ <;> (repeat' first | trivial)
 . rw [if_pos (by assumption)] at h4
   cases h4
   have e : sV (ik (some (acc, (c.aK last).2))) = .tuple [.list true 0 [], .int .i64 0, .int .i64 (c.aK last).2.c] := by
    unfold ik
    dsimp only
    rw [if_neg (by assumption)]
    unfold sV
    rw [if_neg (by assumption)]
   rw [e]
   refine a7.mk [] ?_ <;> (repeat' first | trivial)
 . exact ⟨trivial, trivial, hfo.1, by rw [hfo.2.1, h2]; omega, by rw [bU]; omega, by rw [hfo.2.1, h2]⟩
 . rw [if_neg (by assumption)] at h4
   refine ⟨[], (n, _, _, _), ⟨hvo.1, by rw [hvo.2.1, hfo.2.1, h2], by rw [List.length_append, List.length_singleton]; omega, h4⟩, ?_, by show n < n + 1; omega⟩
   refine Go.VG.Sub.mk rfl ?_ ?_ ?_ ?_ <;> (repeat' first | trivial | apply ab | apply aE)
   all_goals (first | rfl | (simp; done))
theorem G3 (s : List UInt8) (d : Int) (hp : d ≥ 32) : OK 10 ([.str s, .int .i64 d]) ([]) (.tuple [.list true 0 [], .int .i64 0, .int .i64 33]) (none) := by
 refine af (C := cx [(32, oB)]) (ah ⟨s4, trivial⟩) (fn := Tryz.f10) rfl rfl rfl rfl fun hw hs => ?_
 repeat' ((conv => whnf); first | apply a9 | (apply al <;> intro h))
 all_goals try conv => whnf
 all_goals try (refine a8.mk ?_; try dsimp only)
 all_goals first
  | (exfalso; omega)
  | (show a7 _ _ _ _ _ _
     refine a7.mk [] ?_ <;> (repeat' first | trivial)
     done)
def sm_cstD : Sm := fun args σ => match args, σ with
 | [.str s, .int .i64 d], [] => some (d ≥ 32, .tuple [.list true 0 [], .int .i64 0, .int .i64 33], none)
 | _, _ => none
theorem AP (k : Nat) : aa 34 (oC k) := JC k (Jz k (JL k (AT k)))
theorem zm (s : List UInt8) (d : Int) (hp : 0 ≤ d ∧ s.length ≤ 1000000000) : OK 10 ([.str s, .int .i64 d]) ([]) (.tuple [dT (bK d s).2.2, .int .i64 ((bK d s).2.1 : Nat), .int .i64 (bK d s).1]) (none) := by
 unfold bK
 by_cases h : d ≥ 32
 . rw [if_pos h]
   exact (G3 s d h).res (Wk.tuple (aq.cons (Wk.nil (.inl rfl)) (aq.refl _)))
 . rw [if_neg h]
   exact (HU (31 - d).toNat (AP _) s d ⟨hp.2, by omega⟩).res (sV_wk Lr)
def qO : Sm := fun args σ => match args, σ with
 | [.str s, .int .i64 d], [] => some (0 ≤ d ∧ s.length ≤ 1000000000, .tuple [dT (bK d s).2.2, .int .i64 ((bK d s).2.1 : Nat), .int .i64 (bK d s).1], none)
 | _, _ => none
theorem vm : aa 10 qO := by
 intro args sg pre x r he hp
 unfold qO at he
 split at he <;> cases he
 . exact zm (hp := hp) ..
def u7 (f : Fd) (c : Cu) : Fd := if c.aQ.toNat = 1 then ⟨f.id, 1, 1, f.bits, f.text, f.raw⟩ else ⟨f.id, 2, f.num, f.bits, f.text, f.raw⟩
theorem MT (i k : Int) (c : Cu) : u7 ⟨i, k, 0, 0, [], []⟩ c = r7 i c := rfl
theorem Dk {c : Cu} (h : c.ok) : Kp c (lN c) := by
 have hb := Kp.pass h 1
 unfold lN
 split
 . exact hb.trans (Kp.fail hb.1 3)
 . exact hb
theorem HE (s : List UInt8) (f : Fd) (c : Cu) (hp : c.ok) : OK 92 ([.ptr 0 0, .ptr 1 0]) ([.cells [.str s, .ptr 2 0], .cells (iF f), .cells (eC c)]) (.tuple []) (some [.cells [.str s, .ptr 2 0], .cells (iF (u7 f c)), .cells (eC (lN c))]) := by
 refine af (C := cx [(64, iW), (66, fX)]) (ah ⟨jL, gK, trivial⟩) (fn := Tryz.f92) rfl rfl rfl rfl fun hw hs => ?_
 repeat' ((conv => whnf); first | apply a9 | (apply al <;> intro h))
 all_goals try conv => whnf
 all_goals try (refine a8.mk ?_; try dsimp only)
 all_goals (try simp only [cg] at *)
 all_goals first | refine stay ?_ | trivial | skip
 all_goals
  unfold lN u7
  repeat (first | rw [if_pos (by omega)] | rw [if_neg (by omega)])
  refine a7.mk [] ?_ <;> (repeat' first | trivial)
def xz : Sm := fun args σ => match args, σ with
 | [.ptr 0 0, .ptr 1 0], [.cells [.str s, .ptr 2 0], .cells ([.int .i64 i_f, .int .u8 k_f, .int .i64 n_f, .int .u64 b_f, .str t_f, .str r_f]), .cells ([.str s_c, .int .i64 (.ofNat a_c), .int .i64 (.ofNat e_c), .int .i64 c_c])] => some (True ∧ (True ∧ ((Cu.mk s_c a_c e_c c_c).ok)), .tuple [], some [.cells [.str s, .ptr 2 0], .cells (iF (u7 (Fd.mk i_f k_f n_f b_f t_f r_f) (Cu.mk s_c a_c e_c c_c))), .cells (eC (lN (Cu.mk s_c a_c e_c c_c)))])
 | _, _ => none
theorem JB : aa 92 xz := by
 intro args sg pre x r he hp
 unfold xz at he
 split at he <;> cases he
 . rw [bT (hp).1]; rw [Dv (hp.2).1]; exact HE (hp := hp.2.2) ..
theorem ve {d : Nat} {k : Int} : ∀ (m i : Nat) (c : Cu) (acc : List Fd), (ep d k m i c acc).1.length ≤ acc.length + m
 | 0, _, _, _ => Nat.le_refl _
 | m + 1, i, c, acc => by
   rw [ep]
   repeat' split
   . exact Nat.le_add_right _ _
   . have := ve (d := d) (k := k) m (i + 1) (lN c) (acc ++ [r7 i c])
     rw [List.length_append, List.length_singleton] at this; omega
   . have := ve (d := d) (k := k) m (i + 1) (bS d ⟨i, k, 0, 0, [], []⟩ c).2 (acc ++ [(bS d ⟨i, k, 0, 0, [], []⟩ c).1])
     rw [List.length_append, List.length_singleton] at this; omega
structure j5 (d : Nat) (k : Int) (n : Nat) (c0 : Cu) (x : Nat × Cu × List Fd) : Prop where
 i : x.1 ≤ n
 l : x.2.2.length = x.1
 kp : Kp c0 x.2.1
 r : ep d k (n - x.1) x.1 x.2.1 x.2.2 = ep d k n 0 c0 []
theorem j5.z {d : Nat} {k : Int} {n : Nat} {c : Cu} (h : c.ok) : j5 d k n c (0, c, []) := ⟨Nat.zero_le _, rfl, Kp.rfl h, rfl⟩
theorem j5.e {d : Nat} {k : Int} {n i : Nat} {c x : Cu} {l : List Fd} (h : j5 d k n c (i, x, l)) (hi : ¬ (i : Int) < n ∨ x.c ≠ 0) : ep d k n 0 c [] = (l, x) := by
 rw [← h.r]
 show ep d k (n - i) i x l = (l, x)
 have := h.i
 dsimp only at this
 rcases hi with hi | hi
 . rw [show n - i = 0 by omega]; rfl
 . cases hn : n - i with
   | zero => rfl
   | succ m => rw [ep, if_pos hi]
theorem j5.s {d : Nat} {k : Int} {n i : Nat} {c x : Cu} {l : List Fd} (h : j5 d k n c (i, x, l)) (hi : (i : Int) < n) (h0 : x.c = 0) :
   (k = 1 ∨ k = 2 → j5 d k n c (i + 1, lN x, l ++ [r7 i x])) ∧ (¬ (k = 1 ∨ k = 2) → j5 d k n c (i + 1, (bS d ⟨i, k, 0, 0, [], []⟩ x).2, l ++ [(bS d ⟨i, k, 0, 0, [], []⟩ x).1])) := by
 have hr := h.r
 have hk := h.kp
 have hl := h.l
 dsimp only at hr hk hl
 obtain ⟨m, hm⟩ : ∃ m, n - i = m + 1 := ⟨n - i - 1, by omega⟩
 rw [hm, ep, if_neg (show ¬ x.c ≠ 0 from fun z => z h0)] at hr
 have e : n - (i + 1) = m := by omega
 refine ⟨fun q => ?_, fun q => ?_⟩
 . rw [if_pos q] at hr
   exact ⟨by show i + 1 ≤ n; omega, by show (l ++ [_]).length = i + 1; rw [List.length_append, List.length_singleton, hl], hk.trans (Dk hk.1), by rw [← hr]; show ep d k (n - (i + 1)) (i + 1) _ _ = _; rw [e]⟩
 . rw [if_neg q] at hr
   exact ⟨by show i + 1 ≤ n; omega, by show (l ++ [_]).length = i + 1; rw [List.length_append, List.length_singleton, hl], hk.trans (Kp.bS hk.1 d _), by rw [← hr]; show ep d k (n - (i + 1)) (i + 1) _ _ = _; rw [e]⟩
theorem IF {r : List Fd × Cu} (h : (fj r).1 ≠ 0) : (fj r).2 = [] := by
 unfold fj at h ⊢
 split
 . rfl
 . rename_i q; rw [if_neg q] at h; exact absurd rfl h
theorem GB (k : Nat) (s : List UInt8) (d : Int) (hp : s.length ≤ 1000000000 ∧ d + k + 1 = 32) : OK 42 [.str s, .int .i64 d] [] (iV (fj (ep k (Cu.new s).bf.1.2 (Cu.new s).bf.1.1.toNat 0 (Cu.new s).bf.2 []))) none := by
 refine af (C := cx [(32, oB), (91, tc), (62, mQ), (92, xz), (34, oC k), (35, gD), (93, wH)]) (ah ⟨s4, Av, pK, JB, AP k, ib, IW, trivial⟩) (fn := Tryz.f42) rfl rfl rfl rfl fun hw _ => ?_
 obtain ⟨hl, hd⟩ := hp
 have hd1 : -9223372036854775808 ≤ d := hw.2.1.1
 have hok := qf s
 have hh := Kp.bf hok
 have hb := vE (.new s)
 generalize hq : (Cu.new s).bf.1.2 = q at *
 generalize hn : (Cu.new s).bf.1.1 = n at *
 generalize hc : (Cu.new s).bf.2 = c at *
 obtain ⟨n, rfl⟩ := Int.eq_ofNat_of_zero_le hb.1.1
 rw [Int.toNat_natCast]
 repeat' ((conv => whnf); first | apply a9 | (apply al <;> intro h))
 all_goals try conv => whnf
 all_goals try (refine a8.mk ?_; try dsimp only)
 all_goals (try simp only [hq, hn, hc] at *)
 . exfalso; omega
 . exact ⟨trivial, hok⟩
 refine bd.mk (Nat × Cu × List Fd) (j5 k q n c) (fun x => ⟨62, [(1, .int .i64 d), (6, .ptr 1 0), (7, .int .i64 n), (8, .int .u8 q), (9, .buf 2), (10, .int .i64 x.1)], [.cells (eC x.2.1), .cells [.str s, .ptr 0 0], .buf 6 0 (x.2.2.map cQ)], [2]⟩) (fun x => n - x.1) [.tm 9 6] (0, c, []) (j5.z hh.1) ?_ (fun ⟨i, x, l⟩ hI _ _ => ?_)
 . refine Go.VG.Sub.mk rfl ?_ ?_ ?_ ?_ <;> (repeat' first | trivial)
 have hi := hI.i
 have hx := hI.kp
 have hlen := hI.l
 have hS := fun h h' => hI.s h h'
 have hE := fun h => hI.e h
 dsimp only at hi hx hlen
 have hxs : x.s = s := by rw [hx.2.1, hh.2.1]; rfl
 have hqb : ((byte q).toNat : Int) = q := cE (by omega)
 have h1n : (byte 1).toNat = 1 := rfl
 repeat' ((conv => whnf); first | apply a9 | apply aJ | (apply al <;> intro h))
 all_goals try conv => whnf
 all_goals try (refine a8.mk ?_; try dsimp only)
 all_goals (try simp only [cg, gT, MT] at *)
 all_goals first | refine stay ?_ | trivial | (simp (discharger := omega) [-List.getD_eq_getElem?_getD, wR] <;> omega) | skip
 all_goals first
  | exact ⟨trivial, trivial, hx.1⟩
  | exact ⟨trivial, hx.1⟩
  | exact ⟨trivial, trivial, hx.1, by rw [hxs]; omega, by rw [bU]; omega, hxs⟩
  | skip
 . have hN := (hS (by assumption) (by assumption)).1 (by omega)
   refine ⟨[], (i + 1, _, _), hN, ?_, by show n - (i + 1) < n - i; omega⟩
   refine Go.VG.Sub.mk rfl ?_ ?_ ?_ ?_ <;> (repeat' first | trivial | apply ab | apply au | apply aE)
   . (simp (discharger := omega) only [wR]; omega)
   . simp
 . have hN := (hS (by assumption) (by assumption)).2 (by omega)
   refine ⟨[], (i + 1, _, _), hN, ?_, by show n - (i + 1) < n - i; omega⟩
   refine Go.VG.Sub.mk rfl ?_ ?_ ?_ ?_ <;> (repeat' first | trivial | apply ab | apply au | apply aE)
   . (simp (discharger := omega) only [wR]; omega)
   . simp
 . rw [hE (.inr (by assumption))]
   have e : iV (fj (l, x)) = .tuple [.list false 6 (l.map cQ), .int .i64 0] := by
    unfold fj
    dsimp only
    rw [if_neg (show ¬ x.fin ≠ 0 from fun z => z (by assumption))]; rfl
   rw [e]
   refine a7.mk [.bH 2] ?_ <;> (repeat' first | trivial)
 . rw [hE (.inr (by assumption))]
   have e : iV (fj (l, x)) = .tuple [.list true 0 [], .int .i64 x.fin] := by
    unfold fj
    dsimp only
    rw [if_pos (show x.fin ≠ 0 by assumption)]
    unfold iV
    rw [if_neg (by assumption)]
   rw [e]
   refine a7.mk [] ?_ <;> (repeat' first | trivial)
 . rw [hE (.inl (by assumption))]
   have e : iV (fj (l, x)) = .tuple [.list false 6 (l.map cQ), .int .i64 0] := by
    unfold fj
    dsimp only
    rw [if_neg (show ¬ x.fin ≠ 0 from fun z => z (by assumption))]; rfl
   rw [e]
   refine a7.mk [.bH 2] ?_ <;> (repeat' first | trivial)
 . rw [hE (.inl (by assumption))]
   have e : iV (fj (l, x)) = .tuple [.list true 0 [], .int .i64 x.fin] := by
    unfold fj
    dsimp only
    rw [if_pos (show x.fin ≠ 0 by assumption)]
    unfold iV
    rw [if_neg (by assumption)]
   rw [e]
   refine a7.mk [] ?_ <;> (repeat' first | trivial)
end Go.Proofs.YtipejldppicijaaGreatDoor
