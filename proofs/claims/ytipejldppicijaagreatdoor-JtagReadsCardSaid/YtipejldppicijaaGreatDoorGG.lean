/-
  A part of the proof.
-/
import Derived.Test.YtipejldppicijaaGreatDoorGE
set_option linter.unusedSimpArgs false
set_option linter.unusedVariables false
set_option maxHeartbeats 4000000
namespace Go.Proofs.YtipejldppicijaaGreatDoor
open Go Go.VG
set_option maxRecDepth 100000
theorem BR (s : List UInt8) (d : Int) (hp : d ≥ 32) : OK 42 ([.str s, .int .i64 d]) ([]) (.tuple [.list true 0 [], .int .i64 33]) (none) := by
 refine ah (C := cx [(32, mH)]) (ai ⟨pK, trivial⟩) (fn := Tryz.f42) rfl rfl rfl rfl fun hw hs => ?_
 repeat' ((conv => whnf); first | apply ab | (apply ae <;> intro h))
 all_goals try conv => whnf
 all_goals try (refine a7.mk ?_; try dsimp only)
 all_goals first
  | (exfalso; omega)
  | (show a6 _ _ _ _ _ _
     refine a6.mk [] ?_ <;> (repeat' first | trivial)
     done)
def sm_citD : Sm := fun args σ => match args, σ with
 | [.str s, .int .i64 d], [] => some (d ≥ 32, .tuple [.list true 0 [], .int .i64 33], none)
 | _, _ => none
theorem BS (s : List UInt8) (d : Int) (hp : 0 ≤ d ∧ s.length ≤ 1000000000) : OK 42 ([.str s, .int .i64 d]) ([]) (.tuple [c6 (bB d s).2, .int .i64 (bB d s).1]) (none) := by
 unfold bB
 by_cases h : d ≥ 32
 . rw [if_pos h]
   exact (BR s d h).res (Wk.tuple (aN.cons (Wk.nil (.inl rfl)) (aN.refl _)))
 . rw [if_neg h]
   exact (Ck (31 - d).toNat s d ⟨hp.2, by omega⟩).res (wL wK)
def qj : Sm := fun args σ => match args, σ with
 | [.str s, .int .i64 d], [] => some (0 ≤ d ∧ s.length ≤ 1000000000, .tuple [c6 (bB d s).2, .int .i64 (bB d s).1], none)
 | _, _ => none
theorem wY : a9 42 qj := by
 intro args sg pre x r he hp
 unfold qj at he
 split at he <;> cases he
 . exact BS (hp := hp) ..
theorem xJ {l : List Fd} {id k : Int} {m : Nat} (h : 0 < m) : iY l id k m = if (l.getD (m - 1) default).id = id ∧ fH (byte (l.getD (m - 1) default).k) (byte k) = true then some (l.getD (m - 1) default) else iY l id k (m - 1) := by
 obtain ⟨n, rfl⟩ : ∃ n, m = n + 1 := ⟨m - 1, by omega⟩
 rw [iY]; rfl
theorem zY {l : List Fd} (h : V.cL (l.map bE)) {i : Nat} (hi : i < l.length) : 0 ≤ (l.getD i default).k ∧ (l.getD i default).k ≤ 255 := by
 have := uC.1 h (bE (l.getD i default)) (List.mem_map.2 ⟨l.getD i default, by rw [List.getD_eq_getElem?_getD, List.getElem?_eq_getElem hi]; exact List.getElem_mem hi, rfl⟩)
 exact this.2.1
theorem yM {a b : Int} (ha : 0 ≤ a ∧ a ≤ 255) (hb : 0 ≤ b ∧ b ≤ 255) : fH (byte a) (byte b) = true ↔ (a = b ∨ ((a = 1 ∨ a = 2) ∧ (b = 1 ∨ b = 2))) := by
 have h1 : ((byte a).toNat : Int) = a := cq ha
 have h2 : ((byte b).toNat : Int) = b := cq hb
 rw [l8]; omega
theorem BG (l : List Fd) (id k : Int) (hp : True) : OK 29 ([c6 l, .int .i64 id, .int .u8 k]) ([]) (.tuple [.agg (eK (bk (aP l id k))), .bool (aP l id k).isSome]) (none) := by
 refine ah (C := cx [(62, lf)]) (ai ⟨nA, trivial⟩) (fn := Tryz.f29) rfl rfl rfl rfl fun hw hs => ?_
 have hl : l.length ≤ 9223372036854775807 := by have := hw.1.1; rw [List.length_map] at this; exact this
 have hwf := fun {i : Nat} (h : i < l.length) => zY hw.1.2 h
 have hk : 0 ≤ k ∧ k ≤ 255 := hw.2.2.1
 all_goals try conv => whnf
 all_goals try (refine a7.mk ?_; try dsimp only)
 refine c5.mk Nat (fun m => m ≤ l.length ∧ iY l id k m = aP l id k) (fun m => ⟨37, [(0, .list false 6 (l.map bE)), (1, .int .i64 id), (2, .int .u8 k), (6, .ptr 0 0), (8, .int .i64 ((m : Int) - 1))], [.cells [.int .i64 0, .int .u8 0, .int .i64 0, .int .u64 0, .str [], .str []]], []⟩) (fun m => m) [] l.length ⟨Nat.le_refl _, rfl⟩ ?_ (fun m ⟨hm, hI⟩ _ _ => ?_)
 . refine Go.VG.Sub.mk rfl ?_ ?_ ?_ ?_ <;> (repeat' first | trivial | apply ak | apply az)
   all_goals (first | rfl | (rw [List.length_map]; (simp (discharger := omega) only [wR]; omega)))
 have hst := fun h => xJ (l := l) (id := id) (k := k) (m := m) h
 have hmi : ((m : Int) - 1).toNat = m - 1 := by omega
 have hb2 : ((byte k).toNat : Int) = k := cq hk
 have hb1 := fun h : m - 1 < l.length => cq (hwf h)
 repeat' ((conv => whnf); first | apply ab | (apply ae <;> intro h) | with_reducible apply kN)
 all_goals try conv => whnf
 all_goals try (refine a7.mk ?_; try dsimp only)
 all_goals (try simp only [List.length_map, hmi] at *)
 all_goals first | refine stay ?_ | trivial | omega | skip
 all_goals first
  | exact ⟨hk, by have := hwf (i := m - 1) (by omega); omega, trivial⟩
  | skip
 all_goals
  by_cases hm0 : 0 < m
  . have hf := hwf (i := m - 1) (by omega)
    have hs := yM hf hk
    have hst := hst hm0
    generalize l.getD (m - 1) default = f at *
    first
    | (show a6 _ _ _ _ _ _
       have e : aP l id k = some f := by rw [← hI, hst, if_pos ⟨by assumption, hs.2 (by omega)⟩]
       rw [e]
       refine a6.mk [] ?_ <;> (repeat' first | trivial)
       done)
    | (refine ⟨[], m - 1, ⟨by omega, by rw [← hI, hst, if_neg (fun q => by have h1 := q.1; have h2 := hs.1 q.2; omega)]⟩, ?_, by omega⟩
       refine Go.VG.Sub.mk rfl ?_ ?_ ?_ ?_ <;> (repeat' first | trivial | apply ak | apply az)
       (simp (discharger := omega) only [wR]; omega)
       done)
    | (exfalso; omega)
  . obtain rfl : m = 0 := by omega
    first
    | (exfalso; omega)
    | (have e : aP l id k = none := hI.symm
       rw [e]
       refine a6.mk [] ?_ <;> (repeat' first | trivial)
       done)
def ld : Sm := fun args σ => match args, σ with
 | [.list false 6 l_l, .int .i64 id, .int .u8 k], [] => some (l_l = (l_l.map bh).map bE ∧ (True), .tuple [.agg (eK (bk (aP (l_l.map bh) id k))), .bool (aP (l_l.map bh) id k).isSome], none)
 | _, _ => none
theorem nz : a9 29 ld := by
 intro args sg pre x r he hp
 unfold ld at he
 split at he <;> cases he
 . rw [jd (hp).1]; exact BG (hp := hp.2) ..
theorem D2 (l : List Fd) (id k : Int) (hp : True) : OK 31 ([c6 l, .int .i64 id, .int .u8 k]) ([]) (.tuple [.agg (eK (bk (aP l id k))), .bool (aP l id k).isSome]) (none) := by
 refine ah (C := cx []) (ai trivial) (fn := Tryz.f31) rfl rfl rfl rfl fun hw hs => ?_
 have hl : l.length ≤ 9223372036854775807 := by have := hw.1.1; rw [List.length_map] at this; exact this
 have hwf := fun {i : Nat} (h : i < l.length) => zY hw.1.2 h
 have hk : 0 ≤ k ∧ k ≤ 255 := hw.2.2.1
 all_goals try conv => whnf
 all_goals try (refine a7.mk ?_; try dsimp only)
 refine c5.mk Nat (fun m => m ≤ l.length ∧ iY l id k m = aP l id k) (fun m => ⟨63, [(0, .list false 6 (l.map bE)), (1, .int .i64 id), (2, .int .u8 k), (6, .ptr 0 0), (8, .int .i64 ((m : Int) - 1))], [.cells [.int .i64 0, .int .u8 0, .int .i64 0, .int .u64 0, .str [], .str []]], []⟩) (fun m => m) [] l.length ⟨Nat.le_refl _, rfl⟩ ?_ (fun m ⟨hm, hI⟩ _ _ => ?_)
 . refine Go.VG.Sub.mk rfl ?_ ?_ ?_ ?_ <;> (repeat' first | trivial | apply ak | apply az)
   all_goals (first | rfl | (rw [List.length_map]; (simp (discharger := omega) only [wR]; omega)))
 have hst := fun h => xJ (l := l) (id := id) (k := k) (m := m) h
 have hmi : ((m : Int) - 1).toNat = m - 1 := by omega
 have hb2 : ((byte k).toNat : Int) = k := cq hk
 have hb1 := fun h : m - 1 < l.length => cq (hwf h)
 repeat' ((conv => whnf); first | apply ab | (apply ae <;> intro h) | with_reducible apply kN)
 all_goals try conv => whnf
 all_goals try (refine a7.mk ?_; try dsimp only)
 all_goals (try simp only [List.length_map, hmi] at *)
 all_goals first | refine stay ?_ | trivial | omega | skip
 all_goals first
  | exact ⟨hk, by have := hwf (i := m - 1) (by omega); omega, trivial⟩
  | skip
 all_goals
  by_cases hm0 : 0 < m
  . have hf := hwf (i := m - 1) (by omega)
    have hs := yM hf hk
    have hst := hst hm0
    generalize l.getD (m - 1) default = f at *
    first
    | (show a6 _ _ _ _ _ _
       have e : aP l id k = some f := by rw [← hI, hst, if_pos ⟨by assumption, hs.2 (by omega)⟩]
       rw [e]
       refine a6.mk [] ?_ <;> (repeat' first | trivial)
       done)
    | (refine ⟨[], m - 1, ⟨by omega, by rw [← hI, hst, if_neg (fun q => by have h1 := q.1; have h2 := hs.1 q.2; omega)]⟩, ?_, by omega⟩
       refine Go.VG.Sub.mk rfl ?_ ?_ ?_ ?_ <;> (repeat' first | trivial | apply ak | apply az)
       (simp (discharger := omega) only [wR]; omega)
       done)
    | (exfalso; omega)
  . obtain rfl : m = 0 := by omega
    first
    | (exfalso; omega)
    | (have e : aP l id k = none := hI.symm
       rw [e]
       refine a6.mk [] ?_ <;> (repeat' first | trivial)
       done)
def mG : Sm := fun args σ => match args, σ with
 | [.list false 6 l_l, .int .i64 id, .int .u8 k], [] => some (l_l = (l_l.map bh).map bE ∧ (True), .tuple [.agg (eK (bk (aP (l_l.map bh) id k))), .bool (aP (l_l.map bh) id k).isSome], none)
 | _, _ => none
theorem pJ : a9 31 mG := by
 intro args sg pre x r he hp
 unfold mG at he
 split at he <;> cases he
 . rw [jd (hp).1]; exact D2 (hp := hp.2) ..
theorem AA {c : Cu} {a : Int} (h : (c.aM a).1.2 ≠ 0) : 1 ≤ (c.aM a).1.2 ∧ (c.aM a).1.2 ≤ 12 := by
 rw [(p5 c a).1] at h ⊢; exact rZ h
theorem oY (i k : Int) (x : List UInt8) : (cw i k x).k = k := by
 unfold cw
 repeat' split
 all_goals rfl
theorem vN {k : Nat} {q : Int} {x : Cu} (h0 : x.c = 0) (hok : x.ok) (he : x.e = x.s.length) (hq : 1 ≤ q ∧ q ≤ 12) (h : (aH k q x).c = 0) :
   (x.p ≤ (aH k q x).p ∧ (aH k q x).p ≤ x.s.length) ∧ (q = 3 → (x.s.take (aH k q x).p).drop x.p ≠ []) ∧ (q = 7 → ((x.s.take (aH k q x).p).drop x.p).length ≤ 8) := by
 have hag := (Rl.val k q (by omega)).z x hok h0
 have g : (aE k q x).c = 0 := by rw [← hag.1]; exact h
 rw [hag.2 g]
 have hv := va (d := k) (id := 0) h0 hok he hq
 have hk := j7 k q x hok
 have h1 := hk.1.1
 have h2 := hk.2.2.1
 exact ⟨⟨hk.2.2.2, by omega⟩, hv.one g, hv.eight g⟩
theorem sV_0 {p : Nat} {l : List Fd} : sV (0, p, l) = .tuple [.list false 6 (l.map bE), .int .i64 p, .int .i64 0] := rfl
theorem sV_n {c : Int} {r : Nat × List Fd} (h : c ≠ 0) : sV (c, r) = .tuple [.list true 0 [], .int .i64 0, .int .i64 c] := by
 unfold sV
 rw [if_neg h]
theorem Cf (k : Nat) (s : List UInt8) (d : Int) (hp : s.length ≤ 1000000000 ∧ d + k + 1 = 32) : OK 11 [.str s, .int .i64 d] [] (sV (gF k (s.length + 1) (.new s) 0 [])) none := by
 refine ah (C := cx [(37, ou), (38, qA), (39, ir k), (40, qH), (41, qG)]) (ai ⟨sm, xk, sn k, xu, xt, trivial⟩) (fn := Tryz.f11) rfl rfl rfl rfl fun hw _ => ?_
 obtain ⟨hl, hd⟩ := hp
 have hd1 : -9223372036854775808 ≤ d := hw.2.1.1
 repeat' ((conv => whnf); first | apply ab | (apply ae <;> intro h))
 all_goals try conv => whnf
 all_goals try (refine a7.mk ?_; try dsimp only)
 . exfalso; omega
 refine c5.mk (Nat × Cu × Int × List Fd) (fun (n, c, a, acc) => (n ≤ s.length + 1 ∧ c.ok ∧ c.c = 0 ∧ c.e = s.length ∧ c.s = s) ∧ acc.length + n = s.length + 1 ∧ gF k n c a acc = gF k (s.length + 1) (.new s) 0 []) (fun (n, c, a, acc) => ⟨74, [(0, .str s), (1, .int .i64 d), (4, .list true 0 []), (5, .int .i64 0), (6, .int .i64 0), (7, .ptr 0 0), (8, .buf 1), (9, .int .i64 a), (10, .int .i64 ((s.length : Int) + 1 - n))], [.cells (eC c), .buf 6 0 (acc.map bE)], [1]⟩) (fun x => x.1) [.tm 8 6] (s.length + 1, .new s, 0, []) ⟨⟨Nat.le_refl _, ib s, rfl, rfl, rfl⟩, by simp, rfl⟩ ?_ (fun ⟨n, c, a, acc⟩ ⟨⟨h1, h2, h3, h4, h5⟩, h6, h7⟩ _ _ => ?_)
 . refine Go.VG.Sub.mk rfl ?_ ?_ ?_ ?_ <;> (repeat' first | trivial | apply ak | apply az)
   show (0 : Int) = (s.length : Int) + 1 - ((s.length + 1 : Nat) : Int)
   omega
 have hcb : c.e = c.s.length := by rw [h5]; exact h4
 have hsb : c.s.length ≤ 1000000000 := by rw [h5]; exact hl
 have hf := Kd.aC h2 a
 have hkb := vC c a
 have hqk := @AA c a
 have hg : ∀ m, n = m + 1 → gF k n c a acc = gF k (m + 1) c a acc := fun m q => by rw [q]
 have hz : n = 0 → gF k n c a acc = (1, 0, []) := fun q => by rw [q]; rfl
 simp only [gF] at hg
 rw [h7] at hg hz
 generalize hX : c.aM a = X at *
 obtain ⟨⟨id, q⟩, x⟩ := X
 dsimp only at hf hkb hqk hg
 have hy := lJ k q x hf.1
 have hxe : x.e = x.s.length := by rw [hf.2.1, hf.2.2]; exact hcb
 have hxl : x.s.length ≤ 1000000000 := by rw [hf.2.1]; exact hsb
 have hxs : x.s = s := hf.2.1.trans h5
 have hov := fun h0 hq h => vN (k := k) (q := q) h0 hf.1 hxe hq h
 rw [hxs] at hov
 repeat' ((conv => whnf); first | apply ab | apply ax | (apply ae <;> intro h))
 all_goals try conv => whnf
 all_goals try (refine a7.mk ?_; try dsimp only)
 all_goals (try simp only [aU, hX, Int.toNat_natCast, oY] at *)
 all_goals first | refine stay ?_ | trivial | omega | (simp (discharger := omega) [-List.getD_eq_getElem?_getD, wR] <;> omega) | skip
 all_goals first
  | exact ⟨hf.1, hxe, hxl, by rw [bL]; omega⟩
  | (have := (hov (by assumption) (hqk (by assumption)) (by assumption)).1; exact ⟨by omega, by omega, by omega⟩)
  | (have := hov (by assumption) (hqk (by assumption)) (by assumption)
     exact ⟨by rw [List.length_drop, List.length_take]; omega, this.2⟩)
  | skip
 all_goals try
  (show a6 _ _ _ _ _ _
   have hg := hg (n - 1) (by omega)
   rw [h5] at hg
   repeat (first | rw [if_pos (by first | assumption | omega)] at hg | rw [if_neg (by first | omega | exact fun z => z (by assumption))] at hg)
   rw [hg]
   first
   | (rw [sV_0]
      refine a6.mk [.bu 1] ?_ <;> (repeat' first | trivial)
      done)
   | (rw [sV_n (by assumption)]
      refine a6.mk [] ?_ <;> (repeat' first | trivial)
      done))
 . have hg := hg (n - 1) (by omega)
   rw [h5] at hg
   repeat (first | rw [if_pos (by first | assumption | omega)] at hg | rw [if_neg (by first | omega | exact fun z => z (by assumption))] at hg)
   refine ⟨[], (n - 1, _, _, _), ⟨⟨by omega, hy.1, by assumption, by rw [hy.2.2, hxe, hxs], by rw [hy.2.1, hxs]⟩, by rw [List.length_append, List.length_singleton]; omega, hg.symm⟩, ?_, by show n - 1 < n; omega⟩
   refine Go.VG.Sub.mk rfl ?_ ?_ ?_ ?_ <;> (repeat' first | trivial | apply ak | apply az | apply bI)
   . (simp (discharger := omega) only [wR]; omega)
   . simp [oY]
 . rw [hz (by omega), sV_n (by decide)]
   refine a6.mk [] ?_ <;> (repeat' first | trivial)
theorem Cd (s : List UInt8) (d : Int) (hp : d ≥ 32) : OK 11 ([.str s, .int .i64 d]) ([]) (.tuple [.list true 0 [], .int .i64 0, .int .i64 33]) (none) := by
 refine ah (C := cx []) (ai trivial) (fn := Tryz.f11) rfl rfl rfl rfl fun hw hs => ?_
 repeat' ((conv => whnf); first | apply ab | (apply ae <;> intro h))
 all_goals try conv => whnf
 all_goals try (refine a7.mk ?_; try dsimp only)
 all_goals first
  | (exfalso; omega)
  | (show a6 _ _ _ _ _ _
     refine a6.mk [] ?_ <;> (repeat' first | trivial)
     done)
theorem Ce (s : List UInt8) (d : Int) (hp : 0 ≤ d ∧ s.length ≤ 1000000000) : OK 11 ([.str s, .int .i64 d]) ([]) (.tuple [c6 (aW d s).2.2, .int .i64 ((aW d s).2.1 : Nat), .int .i64 (aW d s).1]) (none) := by
 unfold aW
 by_cases h : d ≥ 32
 . rw [if_pos h]
   exact (Cd s d h).res (Wk.tuple (aN.cons (Wk.nil (.inl rfl)) (aN.refl _)))
 . rw [if_neg h]
   have hx := Cf (31 - d).toNat s d ⟨hp.2, by omega⟩
   rw [Ar] at hx
   exact hx.res (yK yD)
def qq : Sm := fun args σ => match args, σ with
 | [.str s, .int .i64 d], [] => some (0 ≤ d ∧ s.length ≤ 1000000000, .tuple [c6 (aW d s).2.2, .int .i64 ((aW d s).2.1 : Nat), .int .i64 (aW d s).1], none)
 | _, _ => none
theorem xc : a9 11 qq := by
 intro args sg pre x r he hp
 unfold qq at he
 split at he <;> cases he
 . exact Ce (hp := hp) ..
theorem iV_0 {l : List Fd} : iV (0, l) = .tuple [.list false 6 (l.map bE), .int .i64 0] := rfl
theorem iV_n {c : Int} {r : List Fd} (h : c ≠ 0) : iV (c, r) = .tuple [.list true 0 [], .int .i64 c] := by
 unfold iV
 rw [if_neg h]
theorem AD {c : Cu} (h : c.bD.1.1 ≠ 0) : (1 ≤ c.bD.1.2 ∧ c.bD.1.2 ≤ 12) ∧ c.bD.2.c = 0 := by
 have ha := p6 c
 rw [ha.1] at h ⊢
 have := xO h
 exact ⟨this.1, ha.2.1.trans this.2⟩
theorem AB {k : Nat} {q : Int} {x : Cu} (h0 : x.c = 0) (hok : x.ok) (he : x.e = x.s.length) (hq : 1 ≤ q ∧ q ≤ 12) (h : (bq (aH k) q x).c = 0) :
   (x.p ≤ (bq (aH k) q x).p ∧ (bq (aH k) q x).p ≤ x.s.length) ∧ (jK q x = 3 → (x.s.take (bq (aH k) q x).p).drop x.p ≠ []) ∧ (jK q x = 7 → ((x.s.take (bq (aH k) q x).p).drop x.p).length ≤ 8) ∧ (q < 3 → x.p < x.s.length) := by
 by_cases g : q = 1 ∨ q = 2
 . have e : bq (aH k) q x = if x.ao.toNat > 2 then x.byte.fail 3 else x.byte := by unfold bq; rw [if_pos g]
   rw [e] at h ⊢
   have hb : x.byte.c = 0 := by
    split at h
    . refine Decidable.byContradiction fun z => ?_
      rw [rU z] at h; exact z h
    . exact h
   have e2 : (if x.ao.toNat > 2 then x.byte.fail 3 else x.byte) = x.byte := by
    split
    . rename_i z; rw [if_pos z, pr hb] at h; cases h
    . rfl
   rw [e2]
   obtain ⟨p1, p2, _⟩ := nZ (n := 1) hok h0 (by decide) hb
   have p1 : x.p + 1 ≤ x.e := p1
   have p3 : x.byte.p = x.p + 1 := by show (x.pass 1).p = _; rw [p2]; rfl
   rw [p3]
   have ej : jK q x = 1 ∨ jK q x = 2 := by
    unfold jK
    rw [if_pos (by omega)]
    split
    . exact .inl rfl
    . exact .inr rfl
   exact ⟨⟨by omega, by omega⟩, fun z => by omega, fun z => by omega, fun _ => by omega⟩
 . have e : bq (aH k) q x = aH k q x := by unfold bq; rw [if_neg g]
   have ej : jK q x = q := by unfold jK; rw [if_neg (by omega)]
   rw [e] at h ⊢
   rw [ej]
   have := vN h0 hok he hq h
   exact ⟨this.1, this.2.1, this.2.2, fun z => by omega⟩
theorem Cc (k : Nat) (s : List UInt8) (d : Int) (hp : s.length ≤ 1000000000 ∧ d + k + 1 = 32) : OK 43 [.str s, .int .i64 d] [] (iV (gL k (Cu.new s).bD.1.2 (Cu.new s).bD.1.1.toNat 0 (Cu.new s).bD.2 [])) none := by
 refine ah (C := cx [(37, ou), (86, qB), (94, mF k), (40, qH), (41, qG), (95, tU)]) (ai ⟨sm, xl, xn k (sn k), xu, xt, EI, trivial⟩) (fn := Tryz.f43) rfl rfl rfl rfl fun hw _ => ?_
 obtain ⟨hl, hd⟩ := hp
 have hd1 : -9223372036854775808 ≤ d := hw.2.1.1
 have hok := ib s
 have hh := Kd.aJ hok
 have hb := vD (.new s)
 have hz := @AD (.new s)
 generalize hH : (Cu.new s).bD = H at *
 obtain ⟨⟨n, q⟩, c⟩ := H
 dsimp only at hh hb hz ⊢
 obtain ⟨n, rfl⟩ := Int.eq_ofNat_of_zero_le hb.1.1
 rw [Int.toNat_natCast]
 repeat' ((conv => whnf); first | apply ab | (apply ae <;> intro h))
 all_goals try conv => whnf
 all_goals try (refine a7.mk ?_; try dsimp only)
 all_goals (try simp only [hH] at *)
 . exfalso; omega
 . exact ⟨trivial, hok, rfl, hl⟩
 refine c5.mk (Nat × Nat × Cu × List Fd) (fun (m, i, x, acc) => (i + m = n ∧ x.ok ∧ (n ≠ 0 → x.c = 0) ∧ x.e = s.length ∧ x.s = s) ∧ acc.length = i ∧ gL k q m i x acc = gL k q n 0 c []) (fun (m, i, x, acc) => ⟨73, [(0, .str s), (1, .int .i64 d), (4, .list true 0 []), (5, .int .i64 0), (6, .ptr 0 0), (7, .int .i64 n), (8, .int .u8 q), (9, .buf 1), (10, .int .i64 i)], [.cells (eC x), .buf 6 0 (acc.map bE)], [1]⟩) (fun x => x.1) [.tm 9 6] (n, 0, c, []) ⟨⟨by omega, hh.1, fun z => (hz (by omega)).2, hh.2.2, hh.2.1⟩, rfl, rfl⟩ ?_ (fun ⟨m, i, x, acc⟩ ⟨⟨h1, h2, h3, h4, h5⟩, h6, h7⟩ _ _ => ?_)
 . refine Go.VG.Sub.mk rfl ?_ ?_ ?_ ?_ <;> (repeat' first | trivial)
 have hxb : x.e = x.s.length := by rw [h5]; exact h4
 have hsb : x.s.length ≤ 1000000000 := by rw [h5]; exact hl
 have hg : ∀ j, m = j + 1 → gL k q m i x acc = gL k q (j + 1) i x acc := fun j z => by rw [z]
 have he : m = 0 → gL k q m i x acc = if x.fin ≠ 0 then (x.fin, []) else (0, acc) := fun z => by rw [z]; rfl
 simp only [gL] at hg
 rw [h7] at hg he
 have hy := pd (lJ k) q x h2
 have hov := fun h0 hq h => AB (k := k) (q := q) h0 h2 hxb hq h
 rw [h5] at hov hg
 have h256 := (s.getD x.p 0).toNat_lt
 have hjk : (q < 3 → (s.getD x.p 0).toNat = 1 → jK q x = 1) ∧ (q < 3 → (s.getD x.p 0).toNat ≠ 1 → jK q x = 2) ∧ (¬ q < 3 → jK q x = q) := by
  unfold jK
  rw [h5]
  exact ⟨fun z y => by rw [if_pos z, if_pos y], fun z y => by rw [if_pos z, if_neg y], fun z => by rw [if_neg z]⟩
 repeat' ((conv => whnf); first | apply ab | apply ax | (apply ae <;> intro h) | with_reducible refine goD ?_ fun hc => ?_)
 all_goals try conv => whnf
 all_goals try (refine a7.mk ?_; try dsimp only)
 all_goals (try simp only [aU, hH, Int.toNat_natCast, oY] at *)
 all_goals first | refine stay ?_ | trivial | omega | (simp only [fX]; omega) | (simp (discharger := omega) [-List.getD_eq_getElem?_getD, wR] <;> omega) | skip
 all_goals first
  | exact ⟨trivial, h2, hxb, hsb, by rw [bL]; omega⟩
  | (have := hov (h3 (by omega)) (hz (by omega)).1 (by assumption)
     rw [hjk.2.2 (by assumption)] at this
     exact ⟨by rw [List.length_drop, List.length_take]; omega, this.2.1, this.2.2.1⟩)
  | skip
 all_goals try
  (show a6 _ _ _ _ _ _
   have hg := hg (m - 1) (by omega)
   first
   | rw [hjk.1 (by assumption) (by omega)] at hg
   | rw [hjk.2.1 (by assumption) (by omega)] at hg
   | rw [hjk.2.2 (by assumption)] at hg
   | skip
   repeat (first | rw [if_pos (by first | assumption | omega)] at hg | rw [if_neg (by first | omega | exact fun z => z (by assumption))] at hg)
   rw [hg, iV_n (by assumption)]
   refine a6.mk [] ?_ <;> (repeat' first | trivial)
   done)
 all_goals try
  (show a6 _ _ _ _ _ _
   rw [he (by omega)]
   first
   | (rw [if_neg (show ¬ x.fin ≠ 0 from fun z => z (by assumption)), iV_0]
      refine a6.mk [.bu 1] ?_ <;> (repeat' first | trivial)
      done)
   | (rw [if_pos (show x.fin ≠ 0 by assumption), iV_n (by assumption)]
      refine a6.mk [] ?_ <;> (repeat' first | trivial)
      done))
 all_goals
  (have hg := hg (m - 1) (by omega)
   first
   | rw [hjk.1 (by assumption) (by omega)] at hg
   | rw [hjk.2.1 (by assumption) (by omega)] at hg
   | rw [hjk.2.2 (by assumption)] at hg
   repeat (first | rw [if_pos (by first | assumption | omega)] at hg | rw [if_neg (by first | omega | exact fun z => z (by assumption) | exact fun z => z rfl)] at hg)
   generalize bq (aH k) q x = y at *
   refine ⟨[], (m - 1, i + 1, _, _), ⟨⟨by show i + 1 + (m - 1) = n; omega, hy.1, fun _ => by assumption, by show y.e = _; rw [hy.2.2, hxb, h5], by show y.s = _; rw [hy.2.1, h5]⟩, by rw [List.length_append, List.length_singleton, h6], hg.symm⟩, ?_, by show m - 1 < m; omega⟩
   refine Go.VG.Sub.mk rfl ?_ ?_ ?_ ?_ <;> (repeat' first | trivial | apply ak | apply az | apply bI)
   . (simp (discharger := omega) only [wR]; omega)
   . simp [oY]
   done)
theorem Ca (s : List UInt8) (d : Int) (hp : d ≥ 32) : OK 43 ([.str s, .int .i64 d]) ([]) (.tuple [.list true 0 [], .int .i64 33]) (none) := by
 refine ah (C := cx []) (ai trivial) (fn := Tryz.f43) rfl rfl rfl rfl fun hw hs => ?_
 repeat' ((conv => whnf); first | apply ab | (apply ae <;> intro h))
 all_goals try conv => whnf
 all_goals try (refine a7.mk ?_; try dsimp only)
 all_goals first
  | (exfalso; omega)
  | (show a6 _ _ _ _ _ _
     refine a6.mk [] ?_ <;> (repeat' first | trivial)
     done)
theorem Cb (s : List UInt8) (d : Int) (hp : 0 ≤ d ∧ s.length ≤ 1000000000) : OK 43 ([.str s, .int .i64 d]) ([]) (.tuple [c6 (bB d s).2, .int .i64 (bB d s).1]) (none) := by
 unfold bB
 by_cases h : d ≥ 32
 . rw [if_pos h]
   exact (Ca s d h).res (Wk.tuple (aN.cons (Wk.nil (.inl rfl)) (aN.refl _)))
 . rw [if_neg h]
   have hx := Cc (31 - d).toNat s d ⟨hp.2, by omega⟩
   rw [Ek] at hx
   exact hx.res (wL wK)
def qp : Sm := fun args σ => match args, σ with
 | [.str s, .int .i64 d], [] => some (0 ≤ d ∧ s.length ≤ 1000000000, .tuple [c6 (bB d s).2, .int .i64 (bB d s).1], none)
 | _, _ => none
theorem xb : a9 43 qp := by
 intro args sg pre x r he hp
 unfold qp at he
 split at he <;> cases he
 . exact Cb (hp := hp) ..
end Go.Proofs.YtipejldppicijaaGreatDoor
