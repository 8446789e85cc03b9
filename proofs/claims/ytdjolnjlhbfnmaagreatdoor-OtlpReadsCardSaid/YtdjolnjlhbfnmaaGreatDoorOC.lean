/-
  A part of the proof.
-/
import Derived.Test.YtdjolnjlhbfnmaaGreatDoorOB
set_option linter.unusedSimpArgs false
set_option linter.unusedVariables false
set_option maxHeartbeats 4000000
namespace Go.Proofs.YtdjolnjlhbfnmaaGreatDoor
open Go Go.VG
set_option maxRecDepth 100000
def cz : V → List UInt8
 | .str s => s
 | _ => []
theorem fT (L : List (List UInt8)) : (L.map V.str).map cz = L := by
 rw [List.map_map]
 exact (List.map_congr_left (g := id) fun _ _ => rfl).trans (List.map_id _)
def sH (v : RV) (k : Nat) : Sm := fun args σ => match args, σ with
 | [.list _ 1 l, .int .i64 d], [] => some (l = (l.map cz).map V.str ∧ km (l.map cz) d k, .tuple [.list false 7 (aV (bO v (l.map cz) []).2), .int .i64 (bO v (l.map cz) []).1], none)
 | [.buf 0, .int .i64 d], [.buf 1 _ l] => some (l = (l.map cz).map V.str ∧ km (l.map cz) d k, .tuple [.list false 7 (aV (bO v (l.map cz) []).2), .int .i64 (bO v (l.map cz) []).1], none)
 | _, _ => none
-- #name ovEs ovalue.ReadEntries
theorem wO (v : RV) (k : Nat) (hv : au 77 (gj v k)) : au 29 (sH v k) := by
 intro args sg pre x r he hp
 unfold sH at he
 split at he <;> cases he
 . rename_i c l d
   obtain ⟨h1, h2⟩ := hp
   have := (IS v k hv c (l.map cz) d h2).res (tF sd)
   rw [← h1] at this
   exact this
 . rename_i d q l
   obtain ⟨h1, h2⟩ := hp
   have := (IT v k hv q (l.map cz) d h2).res (tF sd)
   rw [← h1] at this
   exact this
theorem IP (v : RV) (s : List UInt8) (d : Int) (k : Nat) (hp : kn s d k) (h0 : ao s ≠ 0) : OK 121 [.str s, .int .i64 d] [] (.tuple [.list true 0 [], .int .i64 (ao s)]) none := by
 refine al (C := cx [(9, kW)]) (aq ⟨lL, trivial⟩) (fn := Tryz.f121) rfl rfl rfl rfl fun hw _ => ?_
 repeat' ((conv => whnf); first | apply aj | apply aO | (apply aw <;> intro h))
 all_goals try conv => whnf
 all_goals try (refine ae.mk ?_; try dsimp only)
 . exact ⟨by have := hp.s; omega, h0⟩
 . exact absurd (by assumption) h0
 . exact absurd (by assumption) h0
 . refine af.mk [] ?_ <;> (repeat' first | trivial)
theorem IQ (v : RV) (k : Nat) (hv : au 77 (gj v k)) (s : List UInt8) (d : Int) (hp : kn s d k) (h0 : ao s = 0) : OK 121 [.str s, .int .i64 d] [] (.tuple [.list false 7 (aV (fZ v s).2), .int .i64 (fZ v s).1]) none := by
 refine al (C := cx [(9, kX), (11, kY), (29, sH v k)]) (aq ⟨lM, mR, wO v k hv, trivial⟩) (fn := Tryz.f121) rfl rfl rfl rfl fun hw _ => ?_
 have hos := cD hp.s
 have hs := hp.s
 have hb := tA s
 have hr : fZ v s = bO v (dx s) [] := if_neg fun q => q h0
 repeat' ((conv => whnf); apply aj)
 all_goals try conv => whnf
 all_goals try (refine ae.mk ?_; try dsimp only)
 all_goals (try simp only [bW, tz, fT] at *)
 . exact ⟨by omega, h0⟩
 . exact hos
 . exact ⟨trivial, fun i hi => Nat.le_trans (hb.2 i hi) hs, hp.d0, hp.d1, hp.k, by omega⟩
 . rw [hr]
   refine af.mk [] ?_ <;> (repeat' first | trivial)
def yK (v : RV) (k : Nat) : Sm := fun args σ => match args, σ with
 | [.str s, .int .i64 d], [] => some (kn s d k, .tuple [.list false 7 (aV (fZ v s).2), .int .i64 (fZ v s).1], none)
 | _, _ => none
-- #name ovM ovalue.entries
theorem k_ovM (v : RV) (k : Nat) (hv : au 77 (gj v k)) : au 121 (yK v k) := by
 intro args sg pre x r he hp
 unfold yK at he
 split at he <;> cases he
 rename_i s d
 by_cases h : ao s = 0
 . exact IQ v k hv s d hp h
 . rw [show fZ v s = (ao s, []) from if_pos h]
   exact (IP v s d k hp h).res (Wk.tuple (aE.cons (Wk.nil (.inl rfl)) (aE.refl _)))
def rX (r : Int × aK) : V := .tuple [evX r.2, .int .i64 r.1]
theorem wU {f : Pf} (h : bu f ≠ 0) : (bu f = 1 ∧ f.no = 1) ∨ (bu f = 2 ∧ f.no = 2) ∨ (bu f = 3 ∧ f.no = 3) ∨ (bu f = 4 ∧ f.no = 4) ∨ (bu f = 5 ∧ f.no = 7) ∨ (bu f = 6 ∧ f.no = 5) ∨ (bu f = 7 ∧ f.no = 6) := by
 have e : bu f = bu f := rfl
 conv at e => rhs; unfold bu
 by_cases c0 : f.wi = 2 ∧ f.no = 1
 . rw [if_pos c0] at e
   omega
 rw [if_neg c0] at e
 by_cases c1 : f.wi = 0 ∧ f.no = 2
 . rw [if_pos c1] at e
   omega
 rw [if_neg c1] at e
 by_cases c2 : f.wi = 0 ∧ f.no = 3
 . rw [if_pos c2] at e
   omega
 rw [if_neg c2] at e
 by_cases c3 : f.wi = 1 ∧ f.no = 4
 . rw [if_pos c3] at e
   omega
 rw [if_neg c3] at e
 by_cases c4 : f.wi = 2 ∧ f.no = 5
 . rw [if_pos c4] at e
   omega
 rw [if_neg c4] at e
 by_cases c5 : f.wi = 2 ∧ f.no = 6
 . rw [if_pos c5] at e
   omega
 rw [if_neg c5] at e
 by_cases c6 : f.wi = 2 ∧ f.no = 7
 . rw [if_pos c6] at e
   omega
 rw [if_neg c6] at e
 exact absurd e h
theorem Df {f : Pf} (h : bu f = 1) : fP f = .mk 1 f.text 0 0 [] [] := by unfold fP; rw [if_neg (by omega), if_neg (by omega), if_neg (by omega), if_neg (by omega)]
theorem ui {f : Pf} (h : bu f = 2) : fP f = .mk 2 [] (IntKind.i64.wrap (if 1 < f.num then 1 else f.num)) 0 [] [] := by unfold fP; rw [if_pos h]
theorem Dg {f : Pf} (h : bu f = 3) : fP f = .mk 3 [] (IntKind.i64.wrap f.num) 0 [] [] := by unfold fP; rw [if_neg (by omega), if_pos h]
theorem Dh {f : Pf} (h : bu f = 4) : fP f = .mk 4 [] 0 f.num [] [] := by unfold fP; rw [if_neg (by omega), if_neg (by omega), if_pos h]
theorem Di {f : Pf} (h : bu f = 5) : fP f = .mk 5 f.text 0 0 [] [] := by unfold fP; rw [if_neg (by omega), if_neg (by omega), if_neg (by omega), if_pos h]
theorem BC (g6 g7 : RV) (s : List UInt8) (d : Int) (hs : s.length ≤ 9000) (h0 : ao s ≠ 0) : OK 77 [.str s, .int .i64 d] [] (rX (fp g6 g7 s)) none := by
 refine al (C := cx [(9, kW)]) (aq ⟨lL, trivial⟩) (fn := Tryz.f77) rfl rfl rfl rfl fun hw _ => ?_
 rw [show fp g6 g7 s = (ao s, vz) from if_pos h0]
 repeat' ((conv => whnf); first | apply aj | apply aO | (apply aw <;> intro h))
 all_goals try conv => whnf
 all_goals try (refine ae.mk ?_; try dsimp only)
 . exact ⟨by omega, h0⟩
 . exact absurd (by assumption) h0
 . refine af.mk [] ?_ <;> (repeat' first | trivial)
structure nE (v : RV) (K : Nat) (g6 g7 : RV) (d : Int) : Prop where
 d0 : 0 ≤ d
 d1 : d ≤ 1000
 hi : d ≥ 32 → ∀ t, g6 t = (33, vz) ∧ g7 t = (33, vz)
 lo : d < 32 → (∀ t, g6 t = iS (fq v t) ∧ g7 t = jj (fZ v t)) ∧ K + 1 = (32 - d).toNat
theorem BD (v : RV) (K : Nat) (hv : au 77 (gj v K)) (g6 g7 : RV) (s : List UInt8) (d : Int) (hs : s.length ≤ 9000) (hp : nE v K g6 g7 d) (h0 : ao s = 0) : OK 77 [.str s, .int .i64 d] [] (rX (fp g6 g7 s)) none := by
 refine al (C := cx [(9, kX), (119, yW), (120, yJ v K), (121, yK v K)]) (aq ⟨lM, LV, k_ovL v K hv, k_ovM v K hv, trivial⟩) (fn := Tryz.f77) rfl rfl rfl rfl fun hw _ => ?_
 have hos := cD hs
 have hd0 := hp.d0
 have hd1 := hp.d1
 have hhi := hp.hi
 have hlo := hp.lo
 repeat' ((conv => whnf); apply aj)
 all_goals try conv => whnf
 all_goals try (refine ae.mk ?_; try dsimp only)
 . exact ⟨by omega, h0⟩
 refine aT.mk Nat (fun j => j ≤ 7) (fun j => ⟨115, [(1, .int .i64 d), (4, .ptr 0 0), (6, .ptr 1 0), (7, .int .i64 0), (8, .buf 3), (9, .int .u8 (j + 1 : Nat))], [.cells [.int .u8 0, .str [], .int .i64 0, .int .u64 0, .list true 0 [], .list true 0 []], .cells [.buf 2], .buf 4 0 ((aF s).map av), .buf 2 0 ((T7.take j).map fI)], [0, 1, 2, 3]⟩) (fun j => 7 - j) [.tm 8 2] 0 (Nat.zero_le _) ?_ (fun j hj _ _ => ?_)
 . refine Go.VG.Sub.mk rfl ?_ ?_ ?_ ?_ <;> (repeat' first | trivial)
 obtain ⟨m, hm⟩ : ∃ m, m = j + 1 := ⟨_, rfl⟩
 by_cases h7 : j ≠ 7
 . have hj8 : j = 0 ∨ j = 1 ∨ j = 2 ∨ j = 3 ∨ j = 4 ∨ j = 5 ∨ j = 6 := by omega
   rcases hj8 with rfl | rfl | rfl | rfl | rfl | rfl | rfl
   all_goals
    repeat' ((conv => whnf); apply aj)
    all_goals try conv => whnf
    all_goals try (refine ae.mk ?_; try dsimp only)
    all_goals first
     | (constructor <;> decide)
     | decide
     | skip
    refine ⟨[], m, by omega, ?_, by omega⟩
    subst hm
    refine Go.VG.Sub.mk rfl ?_ ?_ ?_ ?_ <;> (repeat' first | trivial)
 have h7 : j = 7 := by omega
 subst h7
 clear hm
 have e7 : ((T7.take 7).map fI).map fG = T7 := rfl
 have hrB : fp g6 g7 s = if ar (bn T7) (aF s) = [] then (0, vz)
  else if bu (aQ (ar (bn T7) (aF s))) = 6 then g6 (aQ (ar (bn T7) (aF s))).text
  else if bu (aQ (ar (bn T7) (aF s))) = 7 then g7 (aQ (ar (bn T7) (aF s))).text
  else (0, fP (aQ (ar (bn T7) (aF s)))) := if_neg fun q => q h0
 have hfm : ar (bn T7) (aF s) ≠ [] → bu (aQ (ar (bn T7) (aF s))) ≠ 0 ∧ (aQ (ar (bn T7) (aF s))).text.length ≤ s.length := fun q => by
  have := xa q
  exact ⟨(wy _).1 (List.mem_filter.1 this).2, (fits s).t _ _ this⟩
 rw [hrB]
 repeat' ((conv => whnf); first | apply aj | apply aO | (apply eG <;> intro h))
 all_goals try conv => whnf
 all_goals try (refine ae.mk ?_; try dsimp only)
 all_goals (try simp only [bW, e7] at *)
 . exact ⟨hos.1, hos.2, ⟨T7, rfl⟩, by decide⟩
 . rename_i h
   have hE : ar (bn T7) (aF s) = [] := by simpa [cy] using h
   rw [if_pos hE]
   refine af.mk [] ?_ <;> (repeat' first | trivial)
 rename_i h
 have hE : ar (bn T7) (aF s) ≠ [] := by simpa [cy] using h
 obtain ⟨hk0, htx⟩ := hfm hE
 rw [if_neg hE]
 generalize aQ (ar (bn T7) (aF s)) = f at *
 have hkn := wU hk0
 refine aT.mk Nat (fun q => 1 ≤ q ∧ (q : Int) ≤ bu f) (fun q => ⟨115, [(1, .int .i64 d), (4, .ptr 0 0), (7, .int .i64 0), (10, .ptr 4 0), (12, .ptr 5 0)], [.cells [.int .u8 0, .str [], .int .i64 0, .int .u64 0, .list true 0 [], .list true 0 []], .dead, .dead, .dead, .cells [.int .i64 f.no, .int .i64 f.wi, .int .u64 f.num, .str f.text], .cells [.int .u8 q, .str [], .int .i64 0, .int .u64 0, .list true 0 [], .list true 0 []]], [0, 1, 2, 3]⟩) (fun q => 8 - q) [] 1 ⟨Nat.le_refl 1, by omega⟩ ?_ (fun q hq _ _ => ?_)
 . refine Go.VG.Sub.mk rfl ?_ ?_ ?_ ?_ <;> (repeat' first | trivial)
 obtain ⟨m, hm⟩ : ∃ m, m = q + 1 := ⟨_, rfl⟩
 have hq8 : q = 1 ∨ q = 2 ∨ q = 3 ∨ q = 4 ∨ q = 5 ∨ q = 6 ∨ q = 7 := by omega
 have hw1 : IntKind.i64.wrap (d + 1) = d + 1 := by rw [bc]; omega
 have hS : d < 32 → kn f.text (d + 1) K := fun q => ⟨by omega, by omega, by omega, by have := (hlo q).2; omega⟩
 rcases hq8 with rfl | rfl | rfl | rfl | rfl | rfl | rfl
 all_goals
  repeat' ((conv => whnf); first | apply aj | apply aO | (apply aw <;> intro h))
  all_goals try conv => whnf
  all_goals try (refine ae.mk ?_; try dsimp only)
  all_goals (try simp only [hw1] at *)
  all_goals first | refine stay ?_ | trivial | skip
  all_goals first
   | (constructor <;> decide)
   | decide
   | exact hS (by omega)
   | (exfalso; omega)
   | skip
 all_goals try
  (refine ⟨[], m, ⟨by omega, by omega⟩, ?_, by omega⟩
   subst hm
   refine Go.VG.Sub.mk rfl ?_ ?_ ?_ ?_ <;> (repeat' first | trivial)
   done)
 . rw [if_neg (by omega), if_neg (by omega), Df (by omega)]
   refine af.mk [] ?_ <;> (repeat' first | trivial)
 . rw [if_neg (by omega), if_neg (by omega), ui (by omega)]
   refine af.mk [] ?_ <;> (repeat' first | trivial)
 . rw [if_neg (by omega), if_neg (by omega), Dg (by omega)]
   refine af.mk [] ?_ <;> (repeat' first | trivial)
 . rw [if_neg (by omega), if_neg (by omega), Dh (by omega)]
   refine af.mk [] ?_ <;> (repeat' first | trivial)
 . rw [if_neg (by omega), if_neg (by omega), Di (by omega)]
   refine af.mk [] ?_ <;> (repeat' first | trivial)
 . rw [if_pos (by omega), (hhi (by omega) _).1]
   refine af.mk [] ?_ <;> (repeat' first | trivial)
 . rw [if_pos (by omega), ((hlo (by omega)).1 _).1, show iS (fq v f.text) = (0, .mk 6 [] 0 0 (fq v f.text).2 []) from if_neg fun z => z (by assumption)]
   refine af.mk [] ?_ <;> (repeat' first | trivial)
 . rw [if_pos (by omega), ((hlo (by omega)).1 _).1, show iS (fq v f.text) = ((fq v f.text).1, vz) from if_pos (by assumption)]
   refine af.mk [] ?_ <;> (repeat' first | trivial)
 . rw [if_neg (by omega), if_pos (by omega), (hhi (by omega) _).2]
   refine af.mk [] ?_ <;> (repeat' first | trivial)
 . rw [if_neg (by omega), if_pos (by omega), ((hlo (by omega)).1 _).2, show jj (fZ v f.text) = (0, .mk 7 [] 0 0 [] (fZ v f.text).2) from if_neg fun z => z (by assumption)]
   refine af.mk [] ?_ <;> (repeat' first | trivial)
 . rw [if_neg (by omega), if_pos (by omega), ((hlo (by omega)).1 _).2, show jj (fZ v f.text) = ((fZ v f.text).1, vz) from if_pos (by assumption)]
   refine af.mk [] ?_ <;> (repeat' first | trivial)
theorem GU {v : aK} (h6 : v.kind ≠ 6 → v.list = []) (h7 : v.kind ≠ 7 → v.map = []) : Wk (evX v) (ev v) := by
 unfold evX
 refine Wk.agg (aE.cons (Wk.refl _) (aE.cons (Wk.refl _) (aE.cons (Wk.refl _) (aE.cons (Wk.refl _) (aE.cons ?_ (aE.cons ?_ aE.nil))))))
 . split
   . exact Wk.refl _
   . rename_i q
     rw [h6 q, show dK [] = [] by simp [dK]]
     exact Wk.nil (.inl rfl)
 . split
   . exact Wk.refl _
   . rename_i q
     rw [h7 q, show aV [] = [] by simp [aV]]
     exact Wk.nil (.inl rfl)
def ga (v : aK) : Prop := (v.kind ≠ 6 → v.list = []) ∧ (v.kind ≠ 7 → v.map = [])
theorem nh : ga vz := ⟨fun _ => rfl, fun _ => rfl⟩
theorem OM (f : Pf) : ga (fP f) := by
 unfold fP
 repeat' split
 all_goals exact ⟨fun _ => rfl, fun _ => rfl⟩
theorem Eh (r : Int × List aK) : ga (iS r).2 := by
 unfold iS
 split
 . exact nh
 . exact ⟨fun h => absurd rfl h, fun _ => rfl⟩
theorem Ei (r : Int × List aG) : ga (jj r).2 := by
 unfold jj
 split
 . exact nh
 . exact ⟨fun _ => rfl, fun h => absurd rfl h⟩
theorem xV {g6 g7 : RV} (h6 : ∀ t, ga (g6 t).2) (h7 : ∀ t, ga (g7 t).2) (s : List UInt8) : ga (fp g6 g7 s).2 := by
 unfold fp
 split
 . exact nh
 split
 . exact nh
 split
 . exact h6 _
 split
 . exact h7 _
 . exact OM _
theorem sc {r : Int × aK} (h : ga r.2) : Wk (rX r) (.tuple [ev r.2, .int .i64 r.1]) := Wk.tuple (aE.cons (GU h.1 h.2) (aE.refl _))
theorem DR : ∀ k s, ga (eb k s).2
 | 0, s => xV (fun _ => nh) (fun _ => nh) s
 | k + 1, s => xV (fun _ => Eh _) (fun _ => Ei _) s
theorem k_vac (v : RV) : au 77 (gj v 1000) := by
 intro args sg pre x r he hp
 unfold gj at he
 split at he <;> cases he
 obtain ⟨_, h1, h2, h3⟩ := hp
 omega
theorem wP : ∀ k, au 77 (gj (eb k) k)
 | 0 => by
   intro args sg pre x r he hp
   unfold gj at he
   split at he <;> cases he
   rename_i s d
   obtain ⟨h1, h2, h3, h4⟩ := hp
   refine ey.res ?_ (sc (DR 0 s))
   by_cases h : ao s = 0
   . exact BD (fun _ => (0, vz)) 1000 (k_vac _) _ _ s d h1 ⟨h2, h3, fun _ _ => ⟨rfl, rfl⟩, fun q => by omega⟩ h
   . exact BC _ _ s d h1 h
 | k + 1 => by
   intro args sg pre x r he hp
   unfold gj at he
   split at he <;> cases he
   rename_i s d
   obtain ⟨h1, h2, h3, h4⟩ := hp
   refine ey.res ?_ (sc (DR (k + 1) s))
   by_cases h : ao s = 0
   . exact BD (eb k) k (wP k) _ _ s d h1 ⟨h2, h3, fun q => by omega, fun _ => ⟨fun _ => ⟨rfl, rfl⟩, h4⟩⟩ h
   . exact BC _ _ s d h1 h
end Go.Proofs.YtdjolnjlhbfnmaaGreatDoor
