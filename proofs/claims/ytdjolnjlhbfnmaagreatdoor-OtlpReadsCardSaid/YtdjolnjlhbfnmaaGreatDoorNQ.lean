/-
  A part of the proof.
-/
import Derived.Test.YtdjolnjlhbfnmaaGreatDoorOD
import Derived.Test.YtdjolnjlhbfnmaaGreatDoorNL
set_option linter.unusedSimpArgs false
set_option linter.unusedVariables false
set_option maxHeartbeats 4000000
namespace Go.Proofs.YtdjolnjlhbfnmaaGreatDoor
open Go Go.VG
set_option maxRecDepth 100000
theorem A9 (f : Pf) : Pf.mk f.no f.wi f.num f.text = f := rfl
def ahead : Nat → Int
 | 0 => -1
 | m + 1 => m
theorem sZ (n : Nat) : ahead n = (n : Int) - 1 := by
 cases n with
 | zero => rfl
 | succ n => show (n : Int) = ((n + 1 : Nat) : Int) - 1; omega
theorem DI {g6 g7 : RV} {s : List UInt8} (h0 : ao s = 0) : fp g6 g7 s = if ar (bn T7) (aF s) = [] then (0, vz)
 else if bu (aQ (ar (bn T7) (aF s))) = 6 then g6 (aQ (ar (bn T7) (aF s))).text
 else if bu (aQ (ar (bn T7) (aF s))) = 7 then g7 (aQ (ar (bn T7) (aF s))).text
 else (0, fP (aQ (ar (bn T7) (aF s)))) := if_neg fun q => q h0
theorem Bz (v : RV) (K : Nat) (hv : au 65 (gd v K)) (g6 g7 : RV) (s : List UInt8) (d : Int) (hs : s.length ≤ 9000) (hp : nE v K g6 g7 d) (h6 : ∀ t, ga (g6 t).2) (h7 : ∀ t, ga (g7 t).2) (h0 : ao s = 0)
   (hH : ar (bn T7) (aF s) ≠ [] → bu (aQ (ar (bn T7) (aF s))) ≠ 6 ∧ bu (aQ (ar (bn T7) (aF s))) ≠ 7) : OK 65 [.str s, .int .i64 d] [] (rX (fp g6 g7 s)) none := by
 refine al (C := cxv [(14, eK), (99, uS), (100, uR v K g6 g7 d)] [(9, [.res, .res])] [(9, 2), (10, 3)]) (wq ⟨fg, Ch, Cg v K hv g6 g7 d hp h6 h7, trivial⟩) (fn := Tryz.f65) rfl rfl rfl rfl fun hw _ => ?_
 have hrB := DI (g6 := g6) (g7 := g7) h0
 have hos := cD hs
 have hfl := (fits s).l
 have hsel := @E6 (bn T7) (aF s)
 have hsd := @xS (bn T7) (aF s)
 repeat' ((conv => whnf); first | apply aj | apply aO | (apply aw <;> intro h))
 all_goals try conv => whnf
 all_goals try (refine ae.mk ?_; try dsimp only)
 . omega
 rotate_left 1
 . exact absurd h0 (by assumption)
 have htx := (fits s).s
 rw [hrB]
 clear hrB
 generalize aF s = L at *
 have e1 : (L.map av).length = L.length := by simp
 refine aT.mk Nat (fun j => j ≤ L.length ∧ ar (bn T7) (L.drop j) = []) (fun j => ⟨103, [(1, .int .i64 d), (4, .ptr 0 0), (6, .buf 1), (8, .int .i64 (ahead j))], [.cells [.int .u8 0, .str [], .int .i64 0, .int .u64 0, .list true 0 [], .list true 0 []], .buf 4 0 (L.map av)], [0, 1]⟩) (fun j => j) [] L.length ⟨Nat.le_refl _, by rw [List.drop_length]; rfl⟩ ?_ (fun j ⟨hj, hn⟩ _ hwS => ?_)
 . refine Go.VG.Sub.mk rfl ?_ ?_ ?_ ?_ <;> (repeat' first | trivial | apply ax | apply aH)
   rw [sZ, e1, bc]; omega
 cases j with
 | zero =>
   rw [List.drop_zero] at hn
   rw [if_pos hn]
   all_goals try conv => whnf
   all_goals try (refine ae.mk ?_; try dsimp only)
   refine af.mk [] ?_ <;> (repeat' first | trivial)
 | succ m =>
   have hnum := zV.1 hwS.2.1.2 (av (L.getD m default)) (List.mem_map.2 ⟨L.getD m default, by rw [List.getD_eq_getElem?_getD, List.getElem?_eq_getElem (show m < L.length by omega)]; exact List.getElem_mem _, rfl⟩)
   have hnum : 0 ≤ (L.getD m default).num := hnum.2.2.1.1
   have htx := htx (L.getD m default) (by rw [List.getD_eq_getElem?_getD, List.getElem?_eq_getElem (show m < L.length by omega)]; exact List.getElem_mem _)
   have hsel := fun h => hsel (j := m) (by omega) h hn
   have hsd := hsd (j := m) (by omega)
   rw [hn, List.append_nil] at hsd
   have hin := wy (L.getD m default)
   rw [show ahead (m + 1) = (m : Int) from rfl]
   have hE : bu (L.getD m default) ≠ 0 → ar (bn T7) L ≠ [] ∧ aQ (ar (bn T7) L) = L.getD m default := fun q => hsel (hin.2 q)
   have hz : bu (L.getD m default) = 0 → ar (bn T7) (L.drop m) = [] := fun q => by
    rw [hsd, if_neg]
    intro q2
    exact hin.1 q2 q
   clear hsel hsd hin
   have hH2 : bu (L.getD m default) ≠ 0 → bu (L.getD m default) ≠ 6 ∧ bu (L.getD m default) ≠ 7 := fun q => by have h := hH (hE q).1; rw [(hE q).2] at h; exact h
   repeat' ((conv => whnf); first | apply aj | (apply aw <;> intro h) | with_reducible apply c9)
   all_goals try conv => whnf
   all_goals try (refine ae.mk ?_; try dsimp only)
   all_goals (try simp only [dc, A9] at *)
   all_goals first | refine stay ?_ | trivial | omega | skip
   all_goals (try generalize L.getD m default = f at *)
   all_goals try (exfalso; omega)
   all_goals try
    (refine ⟨[], m, ⟨by omega, hz (by assumption)⟩, ?_, by omega⟩
     refine Go.VG.Sub.mk rfl ?_ ?_ ?_ ?_ <;> (repeat' first | trivial | apply ax | apply aH)
     all_goals (rw [sZ, bc]; omega)
     done)
   all_goals (try rw [if_neg (hE (by first | assumption | omega)).1, (hE (by first | assumption | omega)).2, if_neg (by omega), if_neg (by omega)])
   . rw [Df (by assumption)]
     refine af.mk [] ?_ <;> (repeat' first | trivial | apply ax | apply aH | apply cZ | apply cJ | apply bE)
   . rw [Di (by assumption)]
     refine af.mk [] ?_ <;> (repeat' first | trivial | apply ax | apply aH | apply cZ | apply cJ | apply bE)
   . rw [Dh (by assumption)]
     refine af.mk [] ?_ <;> (repeat' first | trivial | apply ax | apply aH | apply cZ | apply cJ | apply bE)
   . rw [Dg (by assumption)]
     refine af.mk [] ?_ <;> (repeat' first | trivial | apply ax | apply aH | apply cZ | apply cJ | apply bE)
   . have := wU (by assumption)
     have e2 : bu f = 2 := by omega
     rw [ui e2, if_neg (by omega)]
     refine af.mk [] ?_ <;> (repeat' first | trivial | apply ax | apply aH | apply cZ | apply cJ | apply bE)
   . rw [ui (by assumption), if_pos (by omega)]
     refine af.mk [] ?_ <;> (repeat' first | trivial | apply ax | apply aH | apply cZ | apply cJ | apply bE)
   . rw [ui (by assumption), if_neg (by omega), show f.num = 0 by omega]
     refine af.mk [] ?_ <;> (repeat' first | trivial | apply ax | apply aH | apply cZ | apply cJ | apply bE)
   . exfalso
     have := wU (by assumption)
     omega
theorem I2 (v : RV) (K : Nat) (hv : au 65 (gd v K)) (g6 g7 : RV) (s : List UInt8) (d : Int) (hs : s.length ≤ 9000) (hp : nE v K g6 g7 d) (h6 : ∀ t, ga (g6 t).2) (h7 : ∀ t, ga (g7 t).2) (h0 : ao s = 0)
   (hE0 : ar (bn T7) (aF s) ≠ []) (hH : bu (aQ (ar (bn T7) (aF s))) = 6 ∨ bu (aQ (ar (bn T7) (aF s))) = 7) : OK 65 [.str s, .int .i64 d] [] (.tuple [ev (fp g6 g7 s).2, .int .i64 (fp g6 g7 s).1]) none := by
 refine al (C := cxv [(14, eK), (99, uS), (100, uR v K g6 g7 d)] [(9, [.res, .res])] [(9, 2), (10, 3)]) (wq ⟨fg, Ch, Cg v K hv g6 g7 d hp h6 h7, trivial⟩) (fn := Tryz.f65) rfl rfl rfl rfl fun hw _ => ?_
 have hrB := DI (g6 := g6) (g7 := g7) h0
 have hos := cD hs
 have hfl := (fits s).l
 have hsel := @E6 (bn T7) (aF s)
 have hsd := @xS (bn T7) (aF s)
 repeat' ((conv => whnf); first | apply aj | apply aO | (apply aw <;> intro h))
 all_goals try conv => whnf
 all_goals try (refine ae.mk ?_; try dsimp only)
 . omega
 rotate_left 1
 . exact absurd h0 (by assumption)
 have htx := (fits s).s
 rw [hrB]
 clear hrB
 generalize aF s = L at *
 have e1 : (L.map av).length = L.length := by simp
 refine aT.mk Nat (fun j => j ≤ L.length ∧ ar (bn T7) (L.drop j) = []) (fun j => ⟨103, [(1, .int .i64 d), (4, .ptr 0 0), (6, .buf 1), (8, .int .i64 (ahead j))], [.cells [.int .u8 0, .str [], .int .i64 0, .int .u64 0, .list true 0 [], .list true 0 []], .buf 4 0 (L.map av)], [0, 1]⟩) (fun j => j) [] L.length ⟨Nat.le_refl _, by rw [List.drop_length]; rfl⟩ ?_ (fun j ⟨hj, hn⟩ _ hwS => ?_)
 . refine Go.VG.Sub.mk rfl ?_ ?_ ?_ ?_ <;> (repeat' first | trivial | apply ax | apply aH)
   rw [sZ, e1, bc]; omega
 cases j with
 | zero =>
   rw [List.drop_zero] at hn
   rw [if_pos hn]
   all_goals try conv => whnf
   all_goals try (refine ae.mk ?_; try dsimp only)
   refine af.mk [] ?_ <;> (repeat' first | trivial)
 | succ m =>
   have hnum := zV.1 hwS.2.1.2 (av (L.getD m default)) (List.mem_map.2 ⟨L.getD m default, by rw [List.getD_eq_getElem?_getD, List.getElem?_eq_getElem (show m < L.length by omega)]; exact List.getElem_mem _, rfl⟩)
   have hnum : 0 ≤ (L.getD m default).num := hnum.2.2.1.1
   have htx := htx (L.getD m default) (by rw [List.getD_eq_getElem?_getD, List.getElem?_eq_getElem (show m < L.length by omega)]; exact List.getElem_mem _)
   have hsel := fun h => hsel (j := m) (by omega) h hn
   have hsd := hsd (j := m) (by omega)
   rw [hn, List.append_nil] at hsd
   have hin := wy (L.getD m default)
   rw [show ahead (m + 1) = (m : Int) from rfl]
   have hE : bu (L.getD m default) ≠ 0 → ar (bn T7) L ≠ [] ∧ aQ (ar (bn T7) L) = L.getD m default := fun q => hsel (hin.2 q)
   have hz : bu (L.getD m default) = 0 → ar (bn T7) (L.drop m) = [] := fun q => by
    rw [hsd, if_neg]
    intro q2
    exact hin.1 q2 q
   clear hsel hsd hin
   have hH2 : bu (L.getD m default) ≠ 0 → bu (L.getD m default) = 6 ∨ bu (L.getD m default) = 7 := fun q => by have h := hH; rw [(hE q).2] at h; exact h
   repeat' ((conv => whnf); first | apply aj | (apply aw <;> intro h) | with_reducible apply c9)
   all_goals try conv => whnf
   all_goals try (refine ae.mk ?_; try dsimp only)
   all_goals (try simp only [dc, A9] at *)
   all_goals first | refine stay ?_ | trivial | omega | (simp (discharger := omega) [-List.getD_eq_getElem?_getD, wR] <;> omega) | skip
   all_goals (try generalize L.getD m default = f at *)
   all_goals try (exfalso; omega)
   all_goals try
    (refine ⟨[], m, ⟨by omega, hz (by assumption)⟩, ?_, by omega⟩
     refine Go.VG.Sub.mk rfl ?_ ?_ ?_ ?_ <;> (repeat' first | trivial | apply ax | apply aH)
     all_goals (rw [sZ, bc]; omega)
     done)
   all_goals rw [if_neg (hE (by assumption)).1, (hE (by assumption)).2]
   . rw [if_pos (by assumption), show g6 f.text = pK g6 g7 (bu f) f.text from (if_pos (by assumption)).symm]
     refine af.mk [] ?_ <;> (repeat' first | trivial)
   . rw [if_neg (by assumption), if_pos (by assumption), show g7 f.text = pK g6 g7 (bu f) f.text from (if_neg (by assumption)).symm]
     refine af.mk [] ?_ <;> (repeat' first | trivial)
   . rw [if_pos (by assumption), show g6 f.text = pK g6 g7 (bu f) f.text from (if_pos (by assumption)).symm]
     refine af.mk [] ?_ <;> (repeat' first | trivial)
   . rw [if_neg (by assumption), if_pos (by assumption), show g7 f.text = pK g6 g7 (bu f) f.text from (if_neg (by assumption)).symm]
     refine af.mk [] ?_ <;> (repeat' first | trivial)
theorem I3 (g6 g7 : RV) (s : List UInt8) (d : Int) (hs : s.length ≤ 9000) (h0 : ao s ≠ 0) : OK 65 [.str s, .int .i64 d] [] (rX (fp g6 g7 s)) none := by
 refine al (C := cx [(14, eK)]) (aq ⟨fg, trivial⟩) (fn := Tryz.f65) rfl rfl rfl rfl fun hw _ => ?_
 rw [show fp g6 g7 s = (ao s, vz) from if_pos h0]
 repeat' ((conv => whnf); first | apply aj | apply aO | (apply aw <;> intro h))
 all_goals try conv => whnf
 all_goals try (refine ae.mk ?_; try dsimp only)
 . omega
 . exact absurd (by assumption) h0
 . refine af.mk [] ?_ <;> (repeat' first | trivial)
theorem N9 (v : RV) : au 65 (gd v 1000) := by
 intro args sg pre x r he hp
 unfold gd at he
 split at he <;> cases he
 obtain ⟨_, h1, h2, h3⟩ := hp
 omega
theorem By (v : RV) (K : Nat) (hv : au 65 (gd v K)) (g6 g7 : RV) (s : List UInt8) (d : Int) (hs : s.length ≤ 9000) (hp : nE v K g6 g7 d) (h6 : ∀ t, ga (g6 t).2) (h7 : ∀ t, ga (g7 t).2) : OK 65 [.str s, .int .i64 d] [] (.tuple [ev (fp g6 g7 s).2, .int .i64 (fp g6 g7 s).1]) none := by
 have hw := sc (xV h6 h7 s)
 by_cases h : ao s = 0
 . by_cases hE : ar (bn T7) (aF s) ≠ []
   . by_cases hH : bu (aQ (ar (bn T7) (aF s))) = 6 ∨ bu (aQ (ar (bn T7) (aF s))) = 7
     . exact I2 v K hv g6 g7 s d hs hp h6 h7 h hE hH
     . exact (Bz v K hv g6 g7 s d hs hp h6 h7 h fun _ => by omega).res hw
   . exact (Bz v K hv g6 g7 s d hs hp h6 h7 h fun q => absurd q hE).res hw
 . exact (I3 g6 g7 s d hs h).res hw
-- #name orR truchmanref35.Read
theorem rB : ∀ k, au 65 (gd (eb k) k)
 | 0 => by
   intro args sg pre x r he hp
   unfold gd at he
   split at he <;> cases he
   rename_i s d
   obtain ⟨h1, h2, h3, h4⟩ := hp
   exact By (fun _ => (0, vz)) 1000 (N9 _) _ _ s d h1 ⟨h2, h3, fun _ _ => ⟨rfl, rfl⟩, fun q => by omega⟩ (fun _ => nh) (fun _ => nh)
 | k + 1 => by
   intro args sg pre x r he hp
   unfold gd at he
   split at he <;> cases he
   rename_i s d
   obtain ⟨h1, h2, h3, h4⟩ := hp
   exact By (eb k) k (rB k) _ _ s d h1 ⟨h2, h3, fun q => by omega, fun _ => ⟨fun _ => ⟨rfl, rfl⟩, h4⟩⟩ (fun _ => Eh _) (fun _ => Ei _)
end Go.Proofs.YtdjolnjlhbfnmaaGreatDoor
namespace Go.Proofs.YtdjolnjlhbfnmaaGreatDoor
open Go Go.VG
set_option maxRecDepth 100000
theorem KF (u : Int) (hp : True) : OK 123 ([.int .u64 u, .int .i64 32]) ([]) (.int .i64 (eU u)) (none) := by
 refine al (C := cx []) (aq trivial) (fn := Tryz.f123) rfl rfl rfl rfl fun hw hs => ?_
 have hu : 0 ≤ u ∧ u ≤ 18446744073709551615 := hw.1
 repeat' ((conv => whnf); apply aj)
 all_goals try conv => whnf
 all_goals try (refine ae.mk ?_; try dsimp only)
 . decide
 . decide
 . refine af.mk [] ?_ <;> (repeat' first | trivial | apply ax | apply aH)
   rw [show IntKind.i64.wrap (64 - 32) = 32 by decide]
   show (IntKind.i64.wrap (IntKind.u64.wrap (u * 2 ^ (min (32 : Int).toNat IntKind.u64.bits)))).fdiv (2 ^ (min (32 : Int).toNat IntKind.i64.bits)) = IntKind.i32.wrap u
   rw [show (2 : Int) ^ (min (32 : Int).toNat IntKind.u64.bits) = 4294967296 by decide, show (2 : Int) ^ (min (32 : Int).toNat IntKind.i64.bits) = 4294967296 by decide, Int.fdiv_eq_ediv_of_nonneg _ (by decide), bc, db, vt]
   omega
def vh : Sm := fun args σ => match args, σ with
 | [.int .u64 u, .int .i64 32], [] => some (True, .int .i64 (eU u), none)
 | _, _ => none
theorem CC : au 123 vh := by
 intro args sg pre x r he hp
 unfold vh at he
 split at he <;> cases he
 . exact KF (hp := hp) ..
theorem Kq (u : Int) (hp : True) : OK 142 ([.int .u64 u, .int .i64 32]) ([]) (.int .i64 (eU u)) (none) := by
 refine al (C := cx [(158, z8)]) (aq ⟨M0, trivial⟩) (fn := Tryz.f142) rfl rfl rfl rfl fun hw hs => ?_
 have hu : 0 ≤ u ∧ u ≤ 18446744073709551615 := hw.1
 have p1 : uk 32 = 4294967296 := by decide
 have p2 : uk (IntKind.i64.wrap (32 - 1)) = 2147483648 := by decide
 have ht : u.tmod 4294967296 = u % 4294967296 := Int.tmod_eq_emod_of_nonneg hu.1
 repeat' ((conv => whnf); first | apply aj | (apply aw <;> intro h))
 all_goals try conv => whnf
 all_goals try (refine ae.mk ?_; try dsimp only)
 all_goals (try simp only [p1, p2, ht] at *)
 . decide
 . decide
 . decide
 . decide
 . refine af.mk [] ?_ <;> (repeat' first | trivial | apply ax | apply aH)
   show IntKind.i64.wrap (IntKind.u64.wrap (u % 4294967296 - 4294967296)) = IntKind.i32.wrap u
   rw [bc, db, vt]
   omega
 . refine af.mk [] ?_ <;> (repeat' first | trivial | apply ax | apply aH)
   show IntKind.i64.wrap (u % 4294967296) = IntKind.i32.wrap u
   rw [bc, vt]
   omega
def zu : Sm := fun args σ => match args, σ with
 | [.int .u64 u, .int .i64 32], [] => some (True, .int .i64 (eU u), none)
 | _, _ => none
theorem Md : au 142 zu := by
 intro args sg pre x r he hp
 unfold zu at he
 split at he <;> cases he
 . exact Kq (hp := hp) ..
end Go.Proofs.YtdjolnjlhbfnmaaGreatDoor
namespace Go.Proofs.YtdjolnjlhbfnmaaGreatDoor
open Go Go.VG
set_option maxRecDepth 100000
theorem K3 (no : Int) (l : List V) (hp : (∃ a : List Pf, l = a.map av) ∧ l.length ≤ 1000000) : OK 103 ([.buf 0, .int .i64 no]) ([.buf 4 0 l]) (.str (aQ (ar (aD no 2) (l.map aS))).text) (none) := by
 refine al (C := cx [(64, nr)]) (aq ⟨pX, trivial⟩) (fn := Tryz.f103) rfl rfl rfl rfl fun hw hs => ?_
 repeat' ((conv => whnf); apply aj)
 all_goals try conv => whnf
 all_goals try (refine ae.mk ?_; try dsimp only)
 . exact hp
 . refine af.mk [] ?_ <;> (repeat' first | trivial)
def oL : Sm := fun args σ => match args, σ with
 | [.buf 0, .int .i64 no], [.buf 4 0 l] => some ((∃ a : List Pf, l = a.map av) ∧ l.length ≤ 1000000, .str (aQ (ar (aD no 2) (l.map aS))).text, none)
 | _, _ => none
theorem rD : au 103 oL := by
 intro args sg pre x r he hp
 unfold oL at he
 split at he <;> cases he
 . exact K3 (hp := hp) ..
theorem JZ (no : Int) (l : List V) (hp : (∃ a : List Pf, l = a.map av) ∧ l.length ≤ 1000000) : OK 106 ([.buf 0, .int .i64 no]) ([.buf 4 0 l]) (.int .u64 (aQ (ar (aD no 1) (l.map aS))).num) (none) := by
 refine al (C := cx [(141, vd)]) (aq ⟨Cx, trivial⟩) (fn := Tryz.f106) rfl rfl rfl rfl fun hw hs => ?_
 repeat' ((conv => whnf); apply aj)
 all_goals try conv => whnf
 all_goals try (refine ae.mk ?_; try dsimp only)
 . exact hp
 . refine af.mk [] ?_ <;> (repeat' first | trivial)
def vf : Sm := fun args σ => match args, σ with
 | [.buf 0, .int .i64 no], [.buf 4 0 l] => some ((∃ a : List Pf, l = a.map av) ∧ l.length ≤ 1000000, .int .u64 (aQ (ar (aD no 1) (l.map aS))).num, none)
 | _, _ => none
theorem Cz : au 106 vf := by
 intro args sg pre x r he hp
 unfold vf at he
 split at he <;> cases he
 . exact JZ (hp := hp) ..
theorem JY (no : Int) (l : List V) (hp : (∃ a : List Pf, l = a.map av) ∧ l.length ≤ 1000000) : OK 105 ([.buf 0, .int .i64 no]) ([.buf 4 0 l]) (.int .i64 (eU (aQ (ar (aD no 0) (l.map aS))).num)) (none) := by
 refine al (C := cx [(141, vd), (142, zu)]) (aq ⟨Cx, Md, trivial⟩) (fn := Tryz.f105) rfl rfl rfl rfl fun hw hs => ?_
 repeat' ((conv => whnf); apply aj)
 all_goals try conv => whnf
 all_goals try (refine ae.mk ?_; try dsimp only)
 . exact hp
 . refine af.mk [] ?_ <;> (repeat' first | trivial)
def ve : Sm := fun args σ => match args, σ with
 | [.buf 0, .int .i64 no], [.buf 4 0 l] => some ((∃ a : List Pf, l = a.map av) ∧ l.length ≤ 1000000, .int .i64 (eU (aQ (ar (aD no 0) (l.map aS))).num), none)
 | _, _ => none
theorem Cy : au 105 ve := by
 intro args sg pre x r he hp
 unfold ve at he
 split at he <;> cases he
 . exact JY (hp := hp) ..
end Go.Proofs.YtdjolnjlhbfnmaaGreatDoor
namespace Go.Proofs.YtdjolnjlhbfnmaaGreatDoor
open Go Go.VG
set_option maxRecDepth 100000
theorem gO (no : Int) (s : List UInt8) : cu (ar (aD no 2) (aF s)) = (ai no s).map V.str := by unfold ai; rw [List.map_map]; rfl
theorem pj {no : Int} {s : List UInt8} (hs : s.length ≤ 9000) : km (ai no s) 0 32 := by
 have he := fJ (no := no) (s := s)
 refine ⟨fun i hi => Nat.le_trans (he.2 _ (dX hi)) hs, by decide, by decide, rfl, by omega⟩
theorem Ka (s : List UInt8) (hs : s.length ≤ 9000) (h0 : ao s = 0) : OK 139 [.str s] [] (.tuple [er (bL s).2, .int .i64 (bL s).1]) none := by
 refine al (C := cx [(14, eK), (15, jv), (38, oJ (eb 32) 32), (106, vf), (103, oL)]) (aq ⟨fg, kL, rA (eb 32) 32 (rB 32), Cz, rD, trivial⟩) (fn := Tryz.f139) rfl rfl rfl rfl fun hw _ => ?_
 rw [show bL s = ((bI 3 s).1, ⟨nm 1 1 s, tx 2 s, (bI 3 s).2⟩) from if_neg fun q => q h0]
 have hos := cD hs
 have he := fJ (no := 3) (s := s)
 repeat' ((conv => whnf); first | apply aj | apply aO | (apply aw <;> intro h))
 all_goals try conv => whnf
 all_goals try (refine ae.mk ?_; try dsimp only)
 all_goals (try simp only [bW, gO, fT] at *)
 . omega
 . exact ⟨⟨_, rfl⟩, by have := hos.2; omega⟩
 . exact ⟨trivial, pj hs⟩
 . exact ⟨⟨_, rfl⟩, by have := hos.2; omega⟩
 . exact ⟨⟨_, rfl⟩, by have := hos.2; omega⟩
 . refine af.mk [] ?_ <;> (repeat' first | trivial)
 . exact absurd h0 (by assumption)
theorem K9 (s : List UInt8) (hs : s.length ≤ 9000) (h0 : ao s ≠ 0) : OK 139 [.str s] [] (.tuple [.agg [.int .u64 0, .str [], .list true 0 []], .int .i64 (ao s)]) none := by
 refine al (C := cx [(14, eK)]) (aq ⟨fg, trivial⟩) (fn := Tryz.f139) rfl rfl rfl rfl fun hw _ => ?_
 repeat' ((conv => whnf); first | apply aj | apply aO | (apply aw <;> intro h))
 all_goals try conv => whnf
 all_goals try (refine ae.mk ?_; try dsimp only)
 . omega
 . exact absurd (by assumption) h0
 . exact absurd (by assumption) h0
 . refine af.mk [] ?_ <;> (repeat' first | trivial)
def zk : Sm := fun args σ => match args, σ with
 | [.str s], [] => some (s.length ≤ 9000, .tuple [er (bL s).2, .int .i64 (bL s).1], none)
 | _, _ => none
-- #name rEv truchmanref36.readEvent
theorem k_rEv : au 139 zk := by
 intro args sg pre x r he hp
 unfold zk at he
 split at he <;> cases he
 rename_i s
 by_cases h : ao s = 0
 . exact Ka s hp h
 . rw [show bL s = (ao s, default) from if_pos h]
   exact (K9 s hp h).res (Wk.tuple (aE.cons (Wk.agg (aE.cons (Wk.refl _) (aE.cons (Wk.refl _) (aE.cons (Wk.nil (.inl rfl)) aE.nil)))) (aE.refl _)))
end Go.Proofs.YtdjolnjlhbfnmaaGreatDoor
