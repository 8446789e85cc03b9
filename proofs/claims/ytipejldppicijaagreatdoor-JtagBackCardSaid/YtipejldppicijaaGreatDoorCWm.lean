/-
  A part of the proof.
-/
import Derived.Test.YtipejldppicijaaGreatDoorCWc
set_option linter.unusedSimpArgs false
set_option linter.unusedVariables false
set_option maxHeartbeats 4000000
namespace Go.Proofs.YtipejldppicijaaGreatDoor
open Go Go.VG
set_option maxRecDepth 100000
theorem Mv {last id : Int} {i k : Nat} (h : last = id - ((i : Int) + 1)) (hi : i < 15) (hk : k ≤ 12) :
   IntKind.u8.wrap (IntKind.u8.wrap (IntKind.i64.wrap (16 * ((i : Int) + 1))) + (k : Int)) = 16 * (id - last) + k := by
 rw [show IntKind.i64.wrap (16 * ((i : Int) + 1)) = 16 * ((i : Int) + 1) by (simp (discharger := omega) only [wR]; omega)]
 rw [show IntKind.u8.wrap (16 * ((i : Int) + 1)) = 16 * ((i : Int) + 1) by (simp (discharger := omega) only [wR]; omega)]
 rw [show IntKind.u8.wrap (16 * ((i : Int) + 1) + (k : Int)) = 16 * ((i : Int) + 1) + k by (simp (discharger := omega) only [wR]; omega)]
 omega
theorem Hb (last id : Int) (k : UInt8) (hp : True) : OK 110 ([.int .i64 last, .int .i64 id, bv k]) ([]) (.str (b6 last id k)) (none) := by
 refine af (C := cx [(75, tu), (79, xf), (137, tw), (139, tn), (138, qS)]) (ah ⟨AH, Jj, AJ, AE, vt, trivial⟩) (fn := Tryz.f110) rfl rfl rfl rfl fun hw hs => ?_
 have hk : k.toNat < 256 := k.toNat_lt
 have hkk : byte k.toNat = k := m5 _
 have hi : -9223372036854775808 ≤ id ∧ id ≤ 9223372036854775807 := hw.2.1
 have hla : -9223372036854775808 ≤ last ∧ last ≤ 9223372036854775807 := hw.1
 have hz := iz (n := id) hi
 have hv := dM hz
 repeat' ((conv => whnf); first | apply a9 | apply aJ | (apply al <;> intro h))
 all_goals try conv => whnf
 all_goals try (refine a8.mk ?_; try dsimp only)
 all_goals (try simp only [hkk] at *)
 all_goals first | refine stay ?_ | (simp (discharger := omega) [-List.getD_eq_getElem?_getD, wR] <;> omega) | skip
 all_goals first
  | (show a7 _ _ _ _ _ _
     unfold b6
     repeat (first | rw [if_pos (by omega)] | rw [if_neg (by omega)])
     refine a7.mk [] ?_ <;> (repeat' first | trivial)
     done)
  | skip
 . refine bd.mk Nat (fun i => i ≤ 15 ∧ ∀ j : Nat, j < i → ¬ (last ≥ -32768 ∧ last = id - (j + 1))) (fun i => ⟨41, [(0, .int .i64 last), (1, .int .i64 id), (2, bv k), (7, .int .i64 (i + 1))], [], []⟩) (fun x => 16 - x) [] 0 ⟨by omega, by intro j hj; omega⟩ ?_ (fun i ⟨h15, hno⟩ _ _ => ?_)
   . refine Go.VG.Sub.mk rfl ?_ ?_ ?_ ?_ <;> (repeat' first | trivial)
   have hwi : IntKind.i64.wrap (id - ((i : Int) + 1)) = id - (i + 1) := by (simp (discharger := omega) only [wR]; omega)
   repeat' ((conv => whnf); first | apply a9 | (apply al <;> intro h))
   all_goals try conv => whnf
   all_goals try (refine a8.mk ?_; try dsimp only)
   all_goals (try simp only [hkk] at *)
   all_goals first | refine stay ?_ | omega | (simp (discharger := omega) [-List.getD_eq_getElem?_getD, wR] <;> omega) | skip
   all_goals first
    | (show a7 _ _ _ _ _ _
       unfold b6
       skip)
    | skip
   . rw [if_neg (by omega), if_pos (by omega)]
     refine a7.mk [] ?_ <;> (repeat' first | trivial | apply ab | apply aV | apply aM)
     rw [Mv (last := last) (id := id) (by omega) (by omega) (by omega)]
   . refine ⟨[], i + 1, ⟨by omega, ?_⟩, ?_, by omega⟩
     . intro j hj
       rcases Nat.lt_or_ge j i with q | q
       . exact hno j q
       . obtain rfl : j = i := by omega
         intro q; omega
     refine Go.VG.Sub.mk rfl ?_ ?_ ?_ ?_ <;> (repeat' first | trivial | apply ab | apply au)
     all_goals (simp (discharger := omega) only [wR]; omega)
   . refine ⟨[], i + 1, ⟨by omega, ?_⟩, ?_, by omega⟩
     . intro j hj q
       omega
     refine Go.VG.Sub.mk rfl ?_ ?_ ?_ ?_ <;> (repeat' first | trivial | apply ab | apply au)
     all_goals (simp (discharger := omega) only [wR]; omega)
   . rw [if_neg (by omega), if_neg (fun q => hno (id - last - 1).toNat (by omega) ⟨q.1, by omega⟩)]
     refine a7.mk [] ?_ <;> (repeat' first | trivial | apply ab | apply aV | apply aM)
     exact m5 _
def xe : Sm := fun args σ => match args, σ with
 | [.int .i64 last, .int .i64 id, .int .u8 n_k], [] => some ((0 ≤ n_k ∧ n_k ≤ 255) ∧ (True), .str (b6 last id (byte n_k)), none)
 | _, _ => none
theorem Ji : aa 110 xe := by
 intro args sg pre x r he hp
 unfold xe at he
 split at he <;> cases he
 . rw [jt (hp).1]; exact Hb (hp := hp.2) ..
end Go.Proofs.YtipejldppicijaaGreatDoor
namespace Go.Proofs.YtipejldppicijaaGreatDoor
open Go Go.VG
set_option maxRecDepth 100000
structure Pl where
 li : Bool
 last : Int
 left : Int
 kd : Int
instance : Inhabited Pl := ⟨⟨false, 0, 0, 0⟩⟩
structure CS where
 out : List UInt8
 l : List Pl
 code : Int
structure aU where
 kind : Int
 id : Int
 n : Int
 what : Int
 bits : Int
 text : List UInt8
instance : Inhabited aU := ⟨⟨0, 0, 0, 0, 0, []⟩⟩
abbrev eP (p : Pl) : V := .agg [.bool p.li, .int .i64 p.last, .int .i64 p.left, .int .u8 p.kd]
abbrev c8 (o : aU) : V := .agg [.int .u8 o.kind, .int .i64 o.id, .int .i64 o.n, .int .u8 o.what, .int .u64 o.bits, .str o.text]
abbrev aN (w : CS) : List O := [.cells [.buf 1, .buf 2, .int .i64 w.code], .buf 1 0 (bl w.out), .buf 4 0 (w.l.map eP)]
def oJ : List V → List UInt8
 | [] => []
 | .int _ n :: r => byte n :: oJ r
 | _ :: r => 0 :: oJ r
@[simp] theorem ubC_bl (s : List UInt8) : oJ (bl s) = s := by
 induction s with
 | nil => rfl
 | cons b s ih => simp only [bl, bv, oJ, ih, m5]
def kf : List V → List Pl
 | [] => []
 | .agg [.bool b, .int _ m, .int _ n, .int _ k] :: r => ⟨b, m, n, k⟩ :: kf r
 | _ :: r => default :: kf r
@[simp] theorem upl_map (l : List Pl) : kf (l.map eP) = l := by
 induction l with
 | nil => rfl
 | cons b s ih => simp only [List.map_cons, kf, ih]
def b9 (o l : List V) (c : Int) : CS := ⟨oJ o, kf l, c⟩
@[simp] theorem bD (w : CS) : b9 (bl w.out) (w.l.map eP) w.code = w := by simp [b9]
@[simp] theorem uI (o : List UInt8) (l : List Pl) (c : Int) : b9 (bl o) (l.map eP) c = ⟨o, l, c⟩ := by simp [b9]
def dk (o l : List V) : Prop := o = bl (oJ o) ∧ l = (kf l).map eP ∧ o.length ≤ 1900000000 ∧ l.length ≤ 1000
theorem aR {s : List UInt8} {l : List Pl} (h : s.length ≤ 1900000000) (k : l.length ≤ 1000) : dk (bl s) (l.map eP) := by
 refine ⟨by simp, by simp, by simpa [bN] using h, by simpa using k⟩
theorem eL {o l : List V} {c : Int} (k : dk o l) : [O.cells [.buf 1, .buf 2, .int .i64 c], .buf 1 0 o, .buf 4 0 l] = aN (b9 o l c) := by
 unfold aN b9; rw [← k.1, ← k.2.1]
theorem Dw {b : Bool} {m n k : Int} (_ : True) : V.agg [.bool b, .int .i64 m, .int .i64 n, .int .u8 k] = eP ⟨b, m, n, k⟩ := rfl
theorem r8 {k i n w b : Int} {t : List UInt8} (_ : True) : V.agg [.int .u8 k, .int .i64 i, .int .i64 n, .int .u8 w, .int .u64 b, .str t] = c8 ⟨k, i, n, w, b, t⟩ := rfl
def CS.fail (s : CS) (c : Int) : CS := if s.code = 0 then { s with code := c } else s
def CS.top (s : CS) : Pl := s.l.getD (s.l.length - 1) default
def CS.gO (s : CS) (p : Pl) : CS := { s with l := s.l.set (s.l.length - 1) p }
def CS.may (s : CS) (id k : Int) : CS × Bool :=
 if s.code ≠ 0 then (s, false)
 else if s.l.length = 0 then ({ s with code := 12 }, false)
 else if s.top.li = true then
  if s.top.left = 0 then ({ s with code := 12 }, false)
  else if eS (byte s.top.kd) (byte k) = true then (s.gO { s.top with left := IntKind.i64.wrap (s.top.left - 1) }, true)
  else ({ s with code := 12 }, false)
 else if (b6 s.top.last id (byte k)).length = 0 then ({ s with code := 4 }, false)
 else ({ s.gO { s.top with last := id } with out := s.out ++ b6 s.top.last id (byte k) }, true)
def CS.put (s : CS) (id k : Int) (b : List UInt8) : CS := if (s.may id k).2 = true then { (s.may id k).1 with out := (s.may id k).1.out ++ b } else (s.may id k).1
def CS.hC (s : CS) (id k : Int) : CS :=
 if (s.may id k).2 = true then if (s.may id k).1.top.li = true then { (s.may id k).1 with out := (s.may id k).1.out ++ [byte k] } else (s.may id k).1 else (s.may id k).1
def CS.flag (s : CS) (id : Int) (b : Bool) : CS := if b = true then s.hC id 1 else s.hC id 2
def c7 (k : Int) : Int := if k = 3 then 8 else if k = 4 then 16 else if k = 5 then 32 else if k = 6 then 64 else 0
def CS.whole (s : CS) (id k n : Int) : CS :=
 if s.code ≠ 0 then s
 else if c7 k = 0 then { s with code := 7 }
 else if bc n (c7 k) ≠ 0 then { s with code := bc n (c7 k) }
 else s.put id k (if k = 3 then [byte (ez n 8)] else aF (cA n))
def CS.begin (s : CS) (p : Pl) : CS := { s with l := s.l ++ [p] }
def CS.struct (s : CS) (id : Int) : CS :=
 if s.code ≠ 0 then s
 else if s.l.length ≥ 32 then { s with code := 33 }
 else if s.l.length = 0 then s.begin ⟨false, 0, 0, 0⟩
 else if (s.may id 12).2 = true then (s.may id 12).1.begin ⟨false, 0, 0, 0⟩ else (s.may id 12).1
def CS.list (s : CS) (id n k : Int) : CS :=
 if s.code ≠ 0 then s
 else if s.l.length ≥ 32 then { s with code := 33 }
 else if (c9 n (byte k)).length = 0 then { s with code := 4 }
 else if (s.may id 9).2 = true then { (s.may id 9).1 with out := (s.may id 9).1.out ++ c9 n (byte k), l := (s.may id 9).1.l ++ [⟨true, 0, n, k⟩] } else (s.may id 9).1
def CS.fin (s : CS) : CS :=
 if s.code ≠ 0 then s
 else if s.l.length = 0 then { s with code := 12 }
 else if s.top.left > 0 then { s with code := 12 }
 else if s.top.li = true then { s with l := s.l.take (s.l.length - 1) }
 else { s with out := s.out ++ [0], l := s.l.take (s.l.length - 1) }
def CS.done (s : CS) : List UInt8 × Int := if s.code ≠ 0 then ([], s.code) else if s.l.length > 0 then ([], 1) else (s.out, 0)
def CS.new : CS := ⟨[], [], 0⟩
def CS.op (s : CS) (o : aU) : CS :=
 if o.kind = 123 then s.struct o.id
 else if o.kind = 91 then s.list o.id o.n o.what
 else if o.kind = 101 then s.fin
 else if o.kind = 102 then s.flag o.id (o.n == 1)
 else if o.kind = 110 then s.whole o.id o.what o.n
 else if o.kind = 100 then s.put o.id 7 (low 8 o.bits.toNat)
 else s.put o.id 8 (aF o.text.length ++ o.text)
theorem uB {c : Prop} [Decidable c] {ρ : Nat → Option Nat} {a b : V} {K : V → Prop} (h1 : c → fI (a.b8 ρ) K) (h2 : ¬ c → fI (b.b8 ρ) K) : fI ((if c then a else b).b8 ρ) K := by
 by_cases h : c
 . rw [if_pos h]; exact h1 h
 . rw [if_neg h]; exact h2 h
theorem pH {w : CS} {n : Nat} {K : V → Prop} (h1 : a8 (n + 1 = w.l.length)) (h2 : K (eP w.top)) : dP (w.l.map eP) n K := by
 obtain rfl : n = w.l.length - 1 := by have := h1.h; omega
 exact iL ⟨by have := h1.h; omega⟩ h2
theorem jE {w : CS} {c : Int} (h : w.code = 0) : w.fail c = { w with code := c } := by unfold CS.fail; rw [if_pos h]
theorem fO {b : Bool} (h : b = false) : ¬ b = true := by rw [h]; decide
theorem jV {a b : UInt8} : eS a b = true ↔ (a.toNat = b.toNat ∨ ((1 ≤ a.toNat ∧ a.toNat ≤ 2) ∧ 1 ≤ b.toNat ∧ b.toNat ≤ 2)) := decide_eq_true_iff
theorem DD {l : List Pl} (h : V.cp (l.map eP)) (hn : ¬ l.length = 0) : 0 ≤ (l.getD (l.length - 1) default).kd ∧ (l.getD (l.length - 1) default).kd ≤ 255 := by
 have hi : l.length - 1 < l.length := by omega
 have := y0.1 h (eP (l.getD (l.length - 1) default)) (List.mem_map.2 ⟨_, by rw [List.getD_eq_getElem?_getD, List.getElem?_eq_getElem hi]; exact List.getElem_mem hi, rfl⟩)
 exact this.2.2.2.1
theorem N1 {w : CS} (h : eY (aN w)) (hn : ¬ w.l.length = 0) : 0 ≤ w.top.kd ∧ w.top.kd ≤ 255 := DD h.2.2.1.2 hn
end Go.Proofs.YtipejldppicijaaGreatDoor
