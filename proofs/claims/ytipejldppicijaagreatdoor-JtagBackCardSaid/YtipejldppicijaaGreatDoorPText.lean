/-
  A part of the proof.
-/
import Derived.Test.YtipejldppicijaaGreatDoorPDec
import Derived.Test.YtipejldppicijaaGreatDoorTxt
import Derived.Test.YtipejldppicijaaGreatDoorPHex
set_option linter.unusedSimpArgs false
set_option linter.unusedVariables false
set_option maxHeartbeats 4000000
namespace Go.Proofs.YtipejldppicijaaGreatDoor
open Go Go.VG
set_option maxRecDepth 100000
theorem Ic (m : Int) (hm : 0 ≤ m ∧ m ≤ 1000) : OK 149 [.list true 0 [], .int .i64 m] [] (.buf 0) (some [.buf 1 0 []]) := by
 refine af (C := cx []) (ah trivial) (fn := Tryz.f149) rfl rfl rfl rfl fun _ _ => ?_
 repeat' ((conv => whnf); apply a9)
 all_goals try conv => whnf
 all_goals try (refine a8.mk ?_; try dsimp only)
 all_goals first | refine stay ?_ | (simp (discharger := omega) [-List.getD_eq_getElem?_getD, wR] <;> omega) | skip
 refine a7.mk [] ?_ <;> (repeat' first | trivial)
def xJ : Sm := fun args σ => match args, σ with
 | [.list true _ [], .int .i64 m], [] => some (0 ≤ m ∧ m ≤ 1000, .buf 0, some [.buf 1 0 []])
 | _, _ => none
theorem JT : aa 149 xJ := by
 intro args sg pre x r he hp
 unfold xJ at he
 split at he <;> cases he
 exact (Ic _ hp).args (aq.cons (Wk.nil (.inl rfl)) (aq.refl _))
theorem E8 (k u : Nat) : be (k + 1) u = be k (u / 256) ++ [.ofNat (u % 256)] := rfl
theorem Fs (k u : Nat) (hk : k ≤ 1000) (hu : u < 18446744073709551616) : OK 145 [.int .u64 u, .int .i64 k] [] (.str (be k u)) none := by
 refine af (C := cx []) (ah trivial) (fn := Tryz.f145) rfl rfl rfl rfl fun _ _ => ?_
 refine bd.mk (Nat × Nat × List UInt8) (fun | (i, w, s) => i ≤ k ∧ s.length = i ∧ be k u = be (k - i) w ++ s ∧ w < 18446744073709551616)
  (fun | (i, w, s) => ⟨22, [(0, .int .u64 w), (1, .int .i64 k), (5, .str s), (6, .int .i64 i)], [], []⟩)
  (fun x => k - x.1) [] (0, u, []) (by simp; omega) ?_ (fun ⟨i, w, s⟩ ⟨hi, hs, he, hw⟩ _ _ => ?_)
 . refine Go.VG.Sub.mk rfl ?_ ?_ ?_ ?_ <;> (repeat' first | trivial)
 have hm : IntKind.u8.wrap ((w : Int).tmod 256) = ((w % 256 : Nat) : Int) := by (simp (discharger := omega) only [wR]; omega)
 have hd : IntKind.u64.wrap ((w : Int).tdiv 256) = ((w / 256 : Nat) : Int) := by (simp (discharger := omega) only [wR]; omega)
 repeat' ((conv => whnf); first | apply a9 | (apply al <;> intro h) | apply i6)
 all_goals try conv => whnf
 all_goals try (refine a8.mk ?_; try dsimp only)
 all_goals first | refine stay ?_ | trivial | omega | (simp only [aW]; omega) | skip
 . have hk1 : k - i = k - (i + 1) + 1 := by omega
   rw [hk1, E8] at he
   refine ⟨[], (i + 1, w / 256, .ofNat (w % 256) :: s), ⟨by omega, by simp [hs], by rw [he]; simp, by omega⟩, ?_, by show k - (i + 1) < k - i; omega⟩
   refine Go.VG.Sub.mk rfl ?_ ?_ ?_ ?_ <;> (repeat' first | trivial | apply ab | apply aV | apply au | apply aM)
   . rw [hm]; rfl
   . (simp (discharger := omega) only [wR]; omega)
 . refine a7.mk [] ?_ <;> (repeat' first | trivial | apply ab | apply aV)
   rw [he, show k - i = 0 by omega]; rfl
def wv : Sm := fun args σ => match args, σ with
 | [.int .u64 u, .int .i64 k], [] => some ((0 ≤ u ∧ u ≤ 18446744073709551615) ∧ 0 ≤ k ∧ k ≤ 1000, .str (be k.toNat u.toNat), none)
 | _, _ => none
theorem IN : aa 145 wv := by
 intro args sg pre x r he hp
 unfold wv at he
 split at he <;> cases he
 obtain ⟨⟨h0, h1⟩, h2, h3⟩ := hp
 obtain ⟨m, rfl⟩ := Int.eq_ofNat_of_zero_le h0
 obtain ⟨k, rfl⟩ := Int.eq_ofNat_of_zero_le h2
 exact Fs k m (by omega) (by omega)
theorem lv (u b : Nat) (hb : b ≤ 64) : IntKind.u8.wrap (bn .u64 u b) = ((UInt8.ofNat (u / 2 ^ b % 256)).toNat : Int) := by
 rw [l4, show min b IntKind.u64.bits = b from Nat.min_eq_left hb, iZ, UInt8.toNat_ofNat']
 omega
set_option maxHeartbeats 2000000 in
theorem Ft (u : Nat) (hu : u < 18446744073709551616) : OK 170 [.list true 0 [], .int .u64 u] [] (.buf 0) (some [.buf 1 0 (bl (be 8 u))]) := by
 refine af (C := cx [(149, xJ)]) (ah ⟨JT, trivial⟩) (fn := Tryz.f170) rfl rfl rfl rfl fun _ _ => ?_
 repeat' ((conv => whnf); apply a9)
 all_goals try conv => whnf
 all_goals try (refine a8.mk ?_; try dsimp only)
 all_goals first | refine stay ?_ | trivial | skip
 refine bd.mk Nat (fun i => i ≤ 8) (fun i => ⟨23, [(1, .int .u64 u), (5, .buf 0), (9, .int .i64 i)], [.buf 1 0 (bl ((be 8 u).take i))], [0]⟩)
  (fun i => 8 - i) [] 0 (by omega) ?_ (fun i hi _ _ => ?_)
 . refine Go.VG.Sub.mk rfl ?_ ?_ ?_ ?_ <;> (repeat' first | trivial)
 have hx : i = 0 ∨ i = 1 ∨ i = 2 ∨ i = 3 ∨ i = 4 ∨ i = 5 ∨ i = 6 ∨ i = 7 ∨ i = 8 := by omega
 have e0 : IntKind.u8.wrap (bn .u64 u 56) = _ := lv u 56 (by omega)
 have e1 : IntKind.u8.wrap (bn .u64 u 48) = _ := lv u 48 (by omega)
 have e2 : IntKind.u8.wrap (bn .u64 u 40) = _ := lv u 40 (by omega)
 have e3 : IntKind.u8.wrap (bn .u64 u 32) = _ := lv u 32 (by omega)
 have e4 : IntKind.u8.wrap (bn .u64 u 24) = _ := lv u 24 (by omega)
 have e5 : IntKind.u8.wrap (bn .u64 u 16) = _ := lv u 16 (by omega)
 have e6 : IntKind.u8.wrap (bn .u64 u 8) = _ := lv u 8 (by omega)
 have e7 : IntKind.u8.wrap (bn .u64 u 0) = _ := lv u 0 (by omega)
 rcases hx with h | h | h | h | h | h | h | h | h <;> subst h
 . repeat' ((conv => whnf); apply a9)
   all_goals try conv => whnf
   all_goals try (refine a8.mk ?_; try dsimp only)
   all_goals first | refine stay ?_ | trivial | (simp only [aW]; omega) | skip
   . refine ⟨[], 1, by omega, ?_, by omega⟩
     refine Go.VG.Sub.mk rfl ?_ ?_ ?_ ?_ <;> (repeat' first | trivial | apply ab | apply au | apply aE | apply aM)
     rw [e0] <;> simp [Nat.div_div_eq_div_mul]
 . repeat' ((conv => whnf); apply a9)
   all_goals try conv => whnf
   all_goals try (refine a8.mk ?_; try dsimp only)
   all_goals first | refine stay ?_ | trivial | (simp only [aW]; omega) | skip
   . refine ⟨[], 2, by omega, ?_, by omega⟩
     refine Go.VG.Sub.mk rfl ?_ ?_ ?_ ?_ <;> (repeat' first | trivial | apply ab | apply au | apply aE | apply aM)
     rw [e1] <;> simp [Nat.div_div_eq_div_mul]
 . repeat' ((conv => whnf); apply a9)
   all_goals try conv => whnf
   all_goals try (refine a8.mk ?_; try dsimp only)
   all_goals first | refine stay ?_ | trivial | (simp only [aW]; omega) | skip
   . refine ⟨[], 3, by omega, ?_, by omega⟩
     refine Go.VG.Sub.mk rfl ?_ ?_ ?_ ?_ <;> (repeat' first | trivial | apply ab | apply au | apply aE | apply aM)
     rw [e2] <;> simp [Nat.div_div_eq_div_mul]
 . repeat' ((conv => whnf); apply a9)
   all_goals try conv => whnf
   all_goals try (refine a8.mk ?_; try dsimp only)
   all_goals first | refine stay ?_ | trivial | (simp only [aW]; omega) | skip
   . refine ⟨[], 4, by omega, ?_, by omega⟩
     refine Go.VG.Sub.mk rfl ?_ ?_ ?_ ?_ <;> (repeat' first | trivial | apply ab | apply au | apply aE | apply aM)
     rw [e3] <;> simp [Nat.div_div_eq_div_mul]
 . repeat' ((conv => whnf); apply a9)
   all_goals try conv => whnf
   all_goals try (refine a8.mk ?_; try dsimp only)
   all_goals first | refine stay ?_ | trivial | (simp only [aW]; omega) | skip
   . refine ⟨[], 5, by omega, ?_, by omega⟩
     refine Go.VG.Sub.mk rfl ?_ ?_ ?_ ?_ <;> (repeat' first | trivial | apply ab | apply au | apply aE | apply aM)
     rw [e4] <;> simp [Nat.div_div_eq_div_mul]
 . repeat' ((conv => whnf); apply a9)
   all_goals try conv => whnf
   all_goals try (refine a8.mk ?_; try dsimp only)
   all_goals first | refine stay ?_ | trivial | (simp only [aW]; omega) | skip
   . refine ⟨[], 6, by omega, ?_, by omega⟩
     refine Go.VG.Sub.mk rfl ?_ ?_ ?_ ?_ <;> (repeat' first | trivial | apply ab | apply au | apply aE | apply aM)
     rw [e5] <;> simp [Nat.div_div_eq_div_mul]
 . repeat' ((conv => whnf); apply a9)
   all_goals try conv => whnf
   all_goals try (refine a8.mk ?_; try dsimp only)
   all_goals first | refine stay ?_ | trivial | (simp only [aW]; omega) | skip
   . refine ⟨[], 7, by omega, ?_, by omega⟩
     refine Go.VG.Sub.mk rfl ?_ ?_ ?_ ?_ <;> (repeat' first | trivial | apply ab | apply au | apply aE | apply aM)
 . repeat' ((conv => whnf); apply a9)
   all_goals try conv => whnf
   all_goals try (refine a8.mk ?_; try dsimp only)
   all_goals first | refine stay ?_ | trivial | (simp only [aW]; omega) | skip
   . refine ⟨[], 8, by omega, ?_, by omega⟩
     refine Go.VG.Sub.mk rfl ?_ ?_ ?_ ?_ <;> (repeat' first | trivial | apply ab | apply au | apply aE | apply aM)
     rw [e7] <;> simp
 . all_goals try conv => whnf
   all_goals try (refine a8.mk ?_; try dsimp only)
   all_goals try refine stay ?_
   refine a7.mk [] ?_ <;> (repeat' first | trivial)
def wx : Sm := fun args σ => match args, σ with
 | [.list true _ [], .int .u64 u], [] => some (0 ≤ u ∧ u ≤ 18446744073709551615, .buf 0, some [.buf 1 0 (bl (be 8 u.toNat))])
 | _, _ => none
theorem IP : aa 170 wx := by
 intro args sg pre x r he hp
 unfold wx at he
 split at he <;> cases he
 obtain ⟨h0, h1⟩ := hp
 obtain ⟨m, rfl⟩ := Int.eq_ofNat_of_zero_le h0
 exact (Ft m (by omega)).args (aq.cons (Wk.nil (.inl rfl)) (aq.refl _))
theorem Gt (u : Int) (hu : 0 ≤ u ∧ u ≤ 18446744073709551615) : OK 156 [.int .u64 u] [] (.str (g9 u)) none := by
 refine af (C := cx [(170, wx), (157, qR)]) (ah ⟨IP, vr, trivial⟩) (fn := Tryz.f156) rfl rfl rfl rfl fun _ _ => ?_
 repeat' ((conv => whnf); first | apply a9 | apply je)
 all_goals try conv => whnf
 all_goals try (refine a8.mk ?_; try dsimp only)
 all_goals first | refine stay ?_ | trivial | (simp (discharger := omega) [-List.getD_eq_getElem?_getD, wR] <;> omega) | skip
 refine a7.mk [] ?_ <;> (repeat' first | trivial)
def wP : Sm := fun args σ => match args, σ with
 | [.int .u64 u], [] => some (0 ≤ u ∧ u ≤ 18446744073709551615, .str (g9 u), none)
 | _, _ => none
theorem J4 : aa 156 wP := by
 intro args sg pre x r he hp
 unfold wP at he
 split at he <;> cases he
 exact Gt _ hp
end Go.Proofs.YtipejldppicijaaGreatDoor
namespace Go.Proofs.YtipejldppicijaaGreatDoor
open Go Go.VG
set_option maxRecDepth 100000
theorem H9 (s : List UInt8) (hs : s.length ≤ 100000000) : OK 141 [.str s] [] (.str (quote s)) none := by
 refine af (C := cx [(144, tq)]) (ah ⟨AG, trivial⟩) (fn := Tryz.f141) rfl rfl rfl rfl fun _ _ => ?_
 refine bd.mk Nat (fun i => i ≤ s.length) (fun i => ⟨45, [(0,.str s),(3,.str (34 :: jS (s.take i))),(4,.int .i64 i)], [], []⟩) (fun i => s.length - i) [] 0 (Nat.zero_le _) ?_ (fun i hi _ _ => ?_)
 . refine Go.VG.Sub.mk rfl ?_ ?_ ?_ ?_ <;> (repeat' first | trivial)
 have hcut : (s.take (IntKind.i64.wrap ((i : Int) + 1)).toNat).drop ((i : Int).toNat) = if i < s.length then [s.getD i 0] else (s.take (IntKind.i64.wrap ((i : Int) + 1)).toNat).drop ((i : Int).toNat) := by
  split
  . rw [show (IntKind.i64.wrap ((i : Int) + 1)).toNat = i + 1 by (simp (discharger := omega) only [wR]; omega)]; exact rC 0 (by assumption)
  . rfl
 have hq := w6 (s.take i)
 rw [List.length_take] at hq
 repeat' ((conv => whnf); first | apply a9 | (apply al <;> intro h) | with_reducible refine i5 ?_ fun hc => ?_)
 all_goals try conv => whnf
 all_goals try (refine a8.mk ?_; try dsimp only)
 all_goals (try rw [hcut, if_pos (by omega)])
 all_goals first | refine stay ?_ | omega | (simp (discharger := omega) only [wR]; omega) | (simp only [aW, gm]; omega) | skip
 all_goals first
  | (exfalso; omega)
  | (refine ⟨[], i + 1, by omega, ?_, by omega⟩
     refine Go.VG.Sub.mk rfl ?_ ?_ ?_ ?_ <;> (repeat' first | trivial | apply ab | apply aV | apply au | apply aM)
     . rw [C5 (by omega)]
       unfold om
       first
       | (rw [if_pos (by omega)]; simp; done)
       | (rw [if_neg (by omega), if_pos (by omega)]; simp; done)
       | (rw [if_neg (by omega), if_neg (by omega)]; simp; done)
     . (simp (discharger := omega) only [wR]; omega)
    )
  | skip
 refine a7.mk [] ?_ <;> (repeat' first | trivial | apply ab | apply aV | apply aM)
 rw [List.take_of_length_le (by omega)]
 rfl
def xd : Sm := fun args σ => match args, σ with
 | [.str s], [] => some (s.length ≤ 100000000, .str (quote s), none)
 | _, _ => none
theorem Jh : aa 141 xd := by
 intro args sg pre x r he hp
 unfold xd at he
 split at he <;> cases he
 exact H9 _ hp
theorem Fv (l : List V) (t : List UInt8) (h : l.length + t.length ≤ 4000000000) : OK 177 [.str t, .ptr 0 0] [.cells [.buf 1], .buf 1 0 l] (.tuple []) (some [.cells [.buf 1], .buf 1 0 (l ++ bl t)]) := by
 refine af (C := cx []) (ah trivial) (fn := Tryz.f177) rfl rfl rfl rfl fun _ _ => ?_
 repeat' ((conv => whnf); apply a9)
 all_goals try conv => whnf
 all_goals try (refine a8.mk ?_; try dsimp only)
 all_goals first | refine stay ?_ | (simp only [aW, gm]; omega) | skip
 refine a7.mk [] ?_ <;> (repeat' first | trivial)
def wz : Sm := fun args σ => match args, σ with
 | [.str t, .ptr 0 0], [.cells [.buf 1], .buf 1 0 l] => some (l.length + t.length ≤ 4000000000, .tuple [], some [.cells [.buf 1], .buf 1 0 (l ++ bl t)])
 | _, _ => none
theorem IS : aa 177 wz := by
 intro args sg pre x r he hp
 unfold wz at he
 split at he <;> cases he
 exact Fv _ _ hp
theorem Gu (s : List UInt8) (l : List V) (hs : s.length ≤ 100000000) (hl : l.length ≤ 3000000000) : OK 176 [.str s, .func (.func 177) [] [.ptr 0 0]] [.cells [.buf 1], .buf 1 0 l] (.tuple []) (some [.cells [.buf 1], .buf 1 0 (l ++ bl (quote s))]) := by
 refine af (C := cx [(177, wz), (157, qR)]) (ah ⟨IS, vr, trivial⟩) (fn := Tryz.f176) rfl rfl rfl rfl fun _ _ => ?_
 repeat' ((conv => whnf); apply a9)
 all_goals try conv => whnf
 all_goals try (refine a8.mk ?_; try dsimp only)
 all_goals first | refine stay ?_ | (simp only [aW, gm]; omega) | skip
 refine bd.mk Nat (fun i => i ≤ s.length) (fun i => ⟨53, [(0,.str s),(1, .func (.func 177) [] [.ptr 0 0]),(9, .int .i64 s.length),(10,.int .i64 i)], [.cells [.buf 1], .buf 1 0 (l ++ bl (34 :: jS (s.take i)))], [1]⟩) (fun i => s.length - i) [] 0 (Nat.zero_le _) ?_ (fun i hi _ _ => ?_)
 . refine Go.VG.Sub.mk rfl ?_ ?_ ?_ ?_ <;> (repeat' first | trivial)
 have hcut : (s.take (IntKind.i64.wrap ((i : Int) + 1)).toNat).drop ((i : Int).toNat) = if i < s.length then [s.getD i 0] else (s.take (IntKind.i64.wrap ((i : Int) + 1)).toNat).drop ((i : Int).toNat) := by
  split
  . rw [show (IntKind.i64.wrap ((i : Int) + 1)).toNat = i + 1 by (simp (discharger := omega) only [wR]; omega)]; exact rC 0 (by assumption)
  . rfl
 have hq := w6 (s.take i)
 rw [List.length_take] at hq
 repeat' ((conv => whnf); first | apply a9 | (apply al <;> intro h) | with_reducible refine i5 ?_ fun hc => ?_)
 all_goals try conv => whnf
 all_goals try (refine a8.mk ?_; try dsimp only)
 all_goals (try rw [hcut, if_pos (by omega)])
 all_goals first | refine stay ?_ | omega | (simp (discharger := omega) only [wR]; omega) | (simp only [aW, gm]; omega) | skip
 all_goals first
  | (refine ⟨[], i + 1, by omega, ?_, by omega⟩
     refine Go.VG.Sub.mk rfl ?_ ?_ ?_ ?_ <;> (repeat' first | trivial | apply ab | apply au | apply aE)
     . (simp (discharger := omega) only [wR]; omega)
     . rw [C5 (by omega), List.append_assoc, ← cN]
       refine congrArg (fun x => l ++ bl x) ?_
       unfold om
       first
       | (rw [if_pos (by omega)]; simp; done)
       | (rw [if_neg (by omega), if_pos (by omega)]; simp; done)
       | (rw [if_neg (by omega), if_neg (by omega)]; simp; done)
    )
  | skip
 refine a7.mk [] ?_ <;> (repeat' first | trivial | apply ab | apply aE)
 rw [List.take_of_length_le (by omega), List.append_assoc, ← cN]
 rfl
def ta : Sm := fun args σ => match args, σ with
 | [.str s, .func (.func 177) [] [.ptr 0 0]], [.cells [.buf 1], .buf 1 0 l] => some (s.length ≤ 100000000 ∧ l.length ≤ 3000000000, .tuple [], some [.cells [.buf 1], .buf 1 0 (l ++ bl (quote s))])
 | _, _ => none
theorem At : aa 176 ta := by
 intro args sg pre x r he hp
 unfold ta at he
 split at he <;> cases he
 exact Gu _ _ hp.1 hp.2
theorem zq (s : List UInt8) (l : List V) (hs : s.length ≤ 100000000) (hl : l.length ≤ 3000000000) : OK 172 [.buf 0, .str s] [.buf 1 0 l] (.buf 0) (some [.buf 1 0 (l ++ bl (quote s))]) := by
 refine af (C := cx [(176, ta)]) (ah ⟨At, trivial⟩) (fn := Tryz.f172) rfl rfl rfl rfl fun _ _ => ?_
 repeat' ((conv => whnf); apply a9)
 all_goals try conv => whnf
 all_goals try (refine a8.mk ?_; try dsimp only)
 all_goals first | refine stay ?_ | (simp (discharger := omega) only [wR]; omega) | (simp (discharger := omega) [-List.getD_eq_getElem?_getD, wR] <;> omega) | skip
 refine a7.mk [.swap 0 1] ?_ <;> (repeat' first | trivial | apply ab | apply aE)
 simp
theorem GS (c : Bool) (l : List V) (s : List UInt8) (hs : s.length ≤ 100000000) (hl : l.length ≤ 3000000000) : OK 172 [.list c 1 l, .str s] [] (.buf 0) (some [.buf 1 0 (l ++ bl (quote s))]) := by
 refine af (C := cx [(176, ta)]) (ah ⟨At, trivial⟩) (fn := Tryz.f172) rfl rfl rfl rfl fun _ _ => ?_
 repeat' ((conv => whnf); apply a9)
 all_goals try conv => whnf
 all_goals try (refine a8.mk ?_; try dsimp only)
 all_goals first | refine stay ?_ | (simp (discharger := omega) only [wR]; omega) | (simp (discharger := omega) [-List.getD_eq_getElem?_getD, wR] <;> omega) | skip
 refine a7.mk [] ?_ <;> (repeat' first | trivial | apply ab | apply aE)
 simp
def wZ : Sm := fun args σ => match args, σ with
 | [.buf 0, .str s], [.buf 1 0 l] => some (s.length ≤ 100000000 ∧ l.length ≤ 3000000000, .buf 0, some [.buf 1 0 (l ++ bl (quote s))])
 | [.list true _ [], .str s], [] => some (s.length ≤ 100000000, .buf 0, some [.buf 1 0 (bl (quote s))])
 | [.list _ 1 l, .str s], [] => some (s.length ≤ 100000000 ∧ l.length ≤ 3000000000, .buf 0, some [.buf 1 0 (l ++ bl (quote s))])
 | _, _ => none
theorem Jc : aa 172 wZ := by
 intro args sg pre x r he hp
 unfold wZ at he
 split at he <;> cases he
 . exact zq _ _ hp.1 hp.2
 . exact cW.nil 0 _ 0 rfl (zq _ [] hp (by simp))
 . exact GS _ _ _ hp.1 hp.2
end Go.Proofs.YtipejldppicijaaGreatDoor
namespace Go.Proofs.YtipejldppicijaaGreatDoor
open Go Go.VG
set_option maxRecDepth 100000
theorem HW (n : Int) : OK 154 [.int .i64 n] [] (.str (ir n)) none := by
 refine af (C := cx []) (ah trivial) (fn := Tryz.f154) rfl rfl rfl rfl fun _ _ => ?_
 repeat' ((conv => whnf); first | apply aJ | (apply al <;> intro h))
 all_goals try conv => whnf
 all_goals try (refine a8.mk ?_; try dsimp only)
 all_goals try refine stay ?_
 . refine a7.mk [] ?_ <;> (repeat' first | trivial | apply ab | apply aV)
   unfold ir; rw [if_pos (by assumption)]
 . refine a7.mk [] ?_ <;> (repeat' first | trivial | apply ab | apply aV)
   unfold ir; rw [if_neg (by assumption)]
def xB : Sm := fun args σ => match args, σ with
 | [.int .i64 q], [] => some (True, .str (ir q), none)
 | _, _ => none
theorem JM : aa 154 xB := by
 intro args sg pre x r he hp
 unfold xB at he
 split at he <;> cases he
 exact HW _
def ke (v : ae) : V := if v.kind = 0 then .iface 208 (.str [110, 117, 108, 108]) else if v.kind = 1 then .iface 207 (.str v.text) else if v.kind = 2 then .iface 208 (.str (ir v.num))
 else if v.kind = 3 then .iface 208 (.str (dS v.num)) else if v.kind = 4 then .iface 207 (.str (g9 v.bits)) else if v.kind = 5 then .iface 207 (.str (dg v.text))
 else if v.kind = 6 then .iface 217 (.list false 6 (eo v.list)) else if v.kind = 7 then .iface 218 (.list false 7 (bB v.map)) else .iface 208 (.str [])
theorem HV (v : ae) (hs : v.text.length ≤ 1000000) : OK 146 [ev v] [] (ke v) none := by
 refine af (C := cx [(154, xB), (155, wO), (156, wP), (157, qR)]) (ah ⟨JM, J3, J4, vr, trivial⟩) (fn := Tryz.f146) rfl rfl rfl rfl fun hw _ => ?_
 have hb := lP hw.1
 repeat' ((conv => whnf); first | apply a9 | (apply al <;> intro h) | apply je)
 all_goals try conv => whnf
 all_goals try (refine a8.mk ?_; try dsimp only)
 all_goals first | refine stay ?_ | trivial | omega | skip
 all_goals
  unfold ke
  repeat' (first | rw [if_pos (by assumption)] | rw [if_neg (by assumption)])
  refine a7.mk [] ?_ <;> (repeat' first | trivial)
def tI : Sm := fun args σ => match args, σ with
 | [x], [] => some (dV x ∧ (aY x).text.length ≤ 1000000, ke (aY x), none)
 | _, _ => none
theorem AU : aa 146 tI := by
 intro args sg pre x r he hp
 unfold tI at he
 split at he <;> cases he
 exact (HV _ hp.2).args (aq.cons hp.1 aq.nil)
def qG (k : Nat) : Sm := fun args σ => match args, σ with
 | [.buf 0, x], [.buf 1 0 l] => some (dV x ∧ (aY x).ok ∧ (aY x).nodes < k ∧ (aY x).size ≤ 300000 ∧ l.length + 120 * (aY x).size ≤ 2000000000, .buf 0, some [.buf 1 0 (l ++ bl (json (aY x)))])
 | _, _ => none
theorem CL {k : Nat} (h : ∀ v l, v.ok → v.nodes < k → v.size ≤ 300000 → l.length + 120 * v.size ≤ 2000000000 → OK 158 [.buf 0, ev v] [.buf 1 0 l] (.buf 0) (some [.buf 1 0 (l ++ bl (json v))])) : aa 158 (qG k) := by
 intro args sg pre x r he hp
 unfold qG at he
 split at he <;> cases he
 exact (h _ _ hp.2.1 hp.2.2.1 hp.2.2.2.1 hp.2.2.2.2).args (aq.cons (Wk.refl _) (aq.cons hp.1 aq.nil))
theorem vP {l : List ae} (h : eG l) {i : Nat} (hi : i < l.length) : (l.getD i default).ok := by
 induction l generalizing i with
 | nil => simp at hi
 | cons v r ih =>
   simp only [eG] at h
   cases i with
   | zero => exact h.1
   | succ i => exact ih h.2 (by simpa using hi)
theorem vR {l : List ak} (h : dG l) {i : Nat} (hi : i < l.length) : (l.getD i default).value.ok := by
 induction l generalizing i with
 | nil => simp at hi
 | cons v r ih =>
   simp only [dG] at h
   cases i with
   | zero => have := h.1; cases v; exact this
   | succ i => exact ih h.2 (by simpa using hi)
theorem ok_eq {v : ae} (h : v.ok) : (0 ≤ v.kind ∧ v.kind ≤ 255) ∧ (-9223372036854775808 ≤ v.num ∧ v.num ≤ 9223372036854775807) ∧ (0 ≤ v.bits ∧ v.bits ≤ 18446744073709551615) ∧ eG v.list ∧ dG v.map := by cases v; exact h
theorem CA {l : List ae} {i : Nat} (h : i < l.length) : eb (l.take i) + (l.getD i default).size ≤ eb l := by
 induction l generalizing i with
 | nil => simp at h
 | cons v r ih =>
   cases i with
   | zero => simp [eb]
   | succ i => have := ih (i := i) (by simpa using h); simp only [eb, List.getD_cons_succ, List.take_succ_cons]; omega
theorem CC {l : List ak} {i : Nat} (h : i < l.length) : bE (l.take i) + ((l.getD i default).key.length + (l.getD i default).value.size) ≤ bE l := by
 induction l generalizing i with
 | nil => simp at h
 | cons v r ih =>
   cases i with
   | zero => simp [bE, lz]
   | succ i => have := ih (i := i) (by simpa using h); simp only [bE, List.getD_cons_succ, List.take_succ_cons]; omega
theorem BF {l : List ae} (h : eG l) (i : Nat) : eG (l.take i) := by
 induction l generalizing i with
 | nil => simpa using h
 | cons v r ih =>
   simp only [eG] at h
   cases i with
   | zero => simp [eG]
   | succ i => simp only [List.take_succ_cons, eG]; exact ⟨h.1, ih h.2 i⟩
theorem BH {l : List ak} (h : dG l) (i : Nat) : dG (l.take i) := by
 induction l generalizing i with
 | nil => simpa using h
 | cons v r ih =>
   simp only [dG] at h
   cases i with
   | zero => simp [dG]
   | succ i => simp only [List.take_succ_cons, dG]; exact ⟨h.1, ih h.2 i⟩
set_option maxHeartbeats 4000000 in
theorem f_lay {k : Nat} (ih : aa 158 (qG k)) (v : ae) (l : List V) (hok : v.ok) (hk : v.nodes < k + 1) (hs : v.size ≤ 300000) (hl : l.length + 120 * v.size ≤ 2000000000) :
   OK 158 [.buf 0, ev v] [.buf 1 0 l] (.buf 0) (some [.buf 1 0 (l ++ bl (json v))]) := by
 refine af (C := cx [(146, tI), (172, wZ), (158, qG k)]) (ah ⟨AU, Jc, ih, trivial⟩) (fn := Tryz.f158) rfl rfl rfl rfl fun hw _ => ?_
 have hb := lP hw.2.1
 have hz := size_eq v
 have hj := Ac v
 have hlen := jJ v hok
 have ht : ke v = ke v := rfl
 rw (occs := .pos [2]) [ke] at ht
 have e1 := kx v.list
 have e2 := iG v.map
 by_cases h0 : v.kind = 0
 . rw [if_pos h0] at ht hj
   rw [hj]
   repeat' ((conv => whnf); apply a9)
   all_goals try conv => whnf
   all_goals try (refine a8.mk ?_; try dsimp only)
   all_goals try ((refine And.intro (ba _) ?_; simp only [az]; repeat' (refine And.intro ?_ ?_)); all_goals (first | assumption | omega); done)
   simp only [az, ht]
   repeat' ((conv => whnf); apply a9)
   all_goals try conv => whnf
   all_goals try (refine a8.mk ?_; try dsimp only)
   all_goals first | refine stay ?_ | (simp only [aW]; omega) | skip
   refine a7.mk [] ?_ <;> (repeat' first | trivial)
 rw [if_neg h0] at ht hj
 by_cases h1 : v.kind = 1
 . rw [if_pos h1] at ht hj
   rw [hj] at hlen
   rw [hj]
   have h21 := gm v.text
   repeat' ((conv => whnf); apply a9)
   all_goals try conv => whnf
   all_goals try (refine a8.mk ?_; try dsimp only)
   all_goals try ((refine And.intro (ba _) ?_; simp only [az]; repeat' (refine And.intro ?_ ?_)); all_goals (first | assumption | omega); done)
   simp only [az, ht]
   repeat' ((conv => whnf); apply a9)
   all_goals try conv => whnf
   all_goals try (refine a8.mk ?_; try dsimp only)
   all_goals first | refine stay ?_ | omega | skip
   refine a7.mk [] ?_ <;> (repeat' first | trivial)
 rw [if_neg h1] at ht hj
 by_cases h2 : v.kind = 2
 . rw [if_pos h2] at ht hj
   rw [hj] at hlen
   rw [hj]
   have h21 := gm v.text
   repeat' ((conv => whnf); apply a9)
   all_goals try conv => whnf
   all_goals try (refine a8.mk ?_; try dsimp only)
   all_goals try ((refine And.intro (ba _) ?_; simp only [az]; repeat' (refine And.intro ?_ ?_)); all_goals (first | assumption | omega); done)
   simp only [az, ht]
   repeat' ((conv => whnf); apply a9)
   all_goals try conv => whnf
   all_goals try (refine a8.mk ?_; try dsimp only)
   all_goals first | refine stay ?_ | (simp only [aW]; omega) | skip
   refine a7.mk [] ?_ <;> (repeat' first | trivial)
 rw [if_neg h2] at ht hj
 by_cases h3 : v.kind = 3
 . rw [if_pos h3] at ht hj
   rw [hj] at hlen
   rw [hj]
   have h21 := gm v.text
   repeat' ((conv => whnf); apply a9)
   all_goals try conv => whnf
   all_goals try (refine a8.mk ?_; try dsimp only)
   all_goals try ((refine And.intro (ba _) ?_; simp only [az]; repeat' (refine And.intro ?_ ?_)); all_goals (first | assumption | omega); done)
   simp only [az, ht]
   repeat' ((conv => whnf); apply a9)
   all_goals try conv => whnf
   all_goals try (refine a8.mk ?_; try dsimp only)
   all_goals first | refine stay ?_ | (simp only [aW]; omega) | skip
   refine a7.mk [] ?_ <;> (repeat' first | trivial)
 rw [if_neg h3] at ht hj
 by_cases h4 : v.kind = 4
 . rw [if_pos h4] at ht hj
   rw [hj] at hlen
   rw [hj]
   have h21 := pf v.bits
   repeat' ((conv => whnf); apply a9)
   all_goals try conv => whnf
   all_goals try (refine a8.mk ?_; try dsimp only)
   all_goals try ((refine And.intro (ba _) ?_; simp only [az]; repeat' (refine And.intro ?_ ?_)); all_goals (first | assumption | omega); done)
   simp only [az, ht]
   repeat' ((conv => whnf); apply a9)
   all_goals try conv => whnf
   all_goals try (refine a8.mk ?_; try dsimp only)
   all_goals first | refine stay ?_ | omega | skip
   refine a7.mk [] ?_ <;> (repeat' first | trivial)
 rw [if_neg h4] at ht hj
 by_cases h5 : v.kind = 5
 . rw [if_pos h5] at ht hj
   rw [hj] at hlen
   rw [hj]
   have h21 := gm v.text
   repeat' ((conv => whnf); apply a9)
   all_goals try conv => whnf
   all_goals try (refine a8.mk ?_; try dsimp only)
   all_goals try ((refine And.intro (ba _) ?_; simp only [az]; repeat' (refine And.intro ?_ ?_)); all_goals (first | assumption | omega); done)
   simp only [az, ht]
   repeat' ((conv => whnf); apply a9)
   all_goals try conv => whnf
   all_goals try (refine a8.mk ?_; try dsimp only)
   all_goals first | refine stay ?_ | omega | skip
   refine a7.mk [] ?_ <;> (repeat' first | trivial)
 rw [if_neg h5] at ht hj
 by_cases h6 : v.kind = 6
 . rw [if_pos h6] at ht hj
   rw [hj] at hlen
   simp only [List.length_cons, List.length_append, List.length_nil] at hlen
   rw [hj]
   repeat' ((conv => whnf); apply a9)
   all_goals try conv => whnf
   all_goals try (refine a8.mk ?_; try dsimp only)
   all_goals try ((refine And.intro (ba _) ?_; simp only [az]; repeat' (refine And.intro ?_ ?_)); all_goals (first | assumption | omega); done)
   simp only [az, ht]
   repeat' ((conv => whnf); apply a9)
   all_goals try conv => whnf
   all_goals try (refine a8.mk ?_; try dsimp only)
   all_goals first | refine stay ?_ | (simp only [aW]; omega) | skip
   have hok' := (ok_eq hok).2.2.2.1
   refine bd.mk Nat (fun i => i ≤ v.list.length) (fun i => ⟨84, [(0, .buf 0), (33, .list false 6 (eo v.list)), (34, .int .i64 (eo v.list).length), (35, .int .i64 i)], [.buf 1 0 (l ++ bl (91 :: fL (v.list.take i))), .cells (cv v)], [0]⟩) (fun i => v.list.length - i) [] 0 (Nat.zero_le _) ?_ (fun i hi _ _ => ?_)
   . refine Go.VG.Sub.mk rfl ?_ ?_ ?_ ?_ <;> (repeat' first | trivial)
   have hx : i < v.list.length → (fL (v.list.take i)).length + 120 * (v.list.getD i default).size ≤ 120 * eb v.list ∧ (v.list.getD i default).ok ∧ (v.list.getD i default).nodes < k ∧ (v.list.getD i default).size ≤ 300000 := fun h => by
    have q1 := CA h
    have q2 := vj _ (BF hok' i)
    have q3 := iP v
    have q4 := qh h
    exact ⟨by omega, vP hok' h, by omega, by omega⟩
   repeat' ((conv => whnf); first | apply a9 | (apply al <;> intro h) | with_reducible refine pG ?_ ?_)
   all_goals try conv => whnf
   all_goals try (refine a8.mk ?_; try dsimp only)
   all_goals first | refine stay ?_ | omega | (simp only [aW]; omega) | skip
   all_goals first
    | (have hlt : i < v.list.length := by omega
       obtain ⟨x1, x2, x3, x4⟩ := hx hlt
       refine ⟨ba _, ?_⟩
       rw [az]
       refine ⟨x2, x3, x4, ?_⟩
       simp only [List.length_append, bN, List.length_cons, List.length_nil]; omega)
    | (have hlt : i < v.list.length := by omega
       obtain ⟨x1, x2, x3, x4⟩ := hx hlt
       simp only [List.length_append, bN, List.length_cons, List.length_nil]; omega)
    | (refine ⟨[], i + 1, by omega, ?_, by omega⟩
       refine Go.VG.Sub.mk rfl ?_ ?_ ?_ ?_ <;> (repeat' first | trivial | apply ab | apply au | apply aE)
       . (simp (discharger := omega) only [wR]; omega)
       . rw [az, A8 (by omega)]
         first
         | (rw [if_pos (by omega)]; simp [bl, cN, bv]; done)
         | (rw [if_neg (by omega)]; simp [bl, cN, bv]; done)
      )
    | skip
   . rw [List.take_of_length_le (by omega)]
     simp only [List.length_append, bN, List.length_cons, List.length_nil]; omega
   . refine a7.mk [] ?_ <;> (repeat' first | trivial | apply ab | apply aE)
     rw [List.take_of_length_le (by omega)]
     simp [bl, cN, bv]
 rw [if_neg h6] at ht hj
 by_cases h7 : v.kind = 7
 . rw [if_pos h7] at ht hj
   rw [hj] at hlen
   simp only [List.length_cons, List.length_append, List.length_nil] at hlen
   rw [hj]
   repeat' ((conv => whnf); apply a9)
   all_goals try conv => whnf
   all_goals try (refine a8.mk ?_; try dsimp only)
   all_goals try ((refine And.intro (ba _) ?_; simp only [az]; repeat' (refine And.intro ?_ ?_)); all_goals (first | assumption | omega); done)
   simp only [az, ht]
   repeat' ((conv => whnf); apply a9)
   all_goals try conv => whnf
   all_goals try (refine a8.mk ?_; try dsimp only)
   all_goals first | refine stay ?_ | (simp only [aW]; omega) | skip
   have hok' := (ok_eq hok).2.2.2.2
   refine bd.mk Nat (fun i => i ≤ v.map.length) (fun i => ⟨84, [(0, .buf 0), (58, .list false 7 (bB v.map)), (59, .int .i64 (bB v.map).length), (60, .int .i64 i)], [.buf 1 0 (l ++ bl (123 :: fM (v.map.take i))), .cells (cv v)], [0]⟩) (fun i => v.map.length - i) [] 0 (Nat.zero_le _) ?_ (fun i hi _ _ => ?_)
   . refine Go.VG.Sub.mk rfl ?_ ?_ ?_ ?_ <;> (repeat' first | trivial)
   have hx : i < v.map.length → ((fM (v.map.take i)).length + 120 * ((v.map.getD i default).key.length + (v.map.getD i default).value.size) ≤ 120 * bE v.map ∧ (quote (v.map.getD i default).key).length ≤ 6 * (v.map.getD i default).key.length + 2) ∧ (v.map.getD i default).value.ok ∧
      (v.map.getD i default).value.nodes < k ∧ (v.map.getD i default).value.size ≤ 300000 ∧ (v.map.getD i default).key.length ≤ 300000 := fun h => by
    have q1 := CC h
    have q2 := vk _ (BH hok' i)
    have q3 := iP v
    have q4 := qi h
    have q5 := oq (v.map.getD i default).key
    exact ⟨⟨by omega, by omega⟩, vR hok' h, by omega, by omega, by omega⟩
   repeat' ((conv => whnf); first | apply a9 | (apply al <;> intro h) | with_reducible refine nR ?_ ?_)
   all_goals try conv => whnf
   all_goals try (refine a8.mk ?_; try dsimp only)
   all_goals first | refine stay ?_ | omega | (simp only [aW]; omega) | skip
   all_goals first
    | (have hlt : i < v.map.length := by omega
       obtain ⟨⟨x1, x5⟩, x2, x3, x4, x6⟩ := hx hlt
       refine ⟨ba _, ?_⟩
       rw [az]
       refine ⟨x2, x3, x4, ?_⟩
       simp only [List.length_append, bN, List.length_cons, List.length_nil]; omega)
    | (have hlt : i < v.map.length := by omega
       obtain ⟨⟨x1, x5⟩, x2, x3, x4, x6⟩ := hx hlt
       simp only [List.length_append, bN, List.length_cons, List.length_nil]; omega)
    | (refine ⟨[], i + 1, by omega, ?_, by omega⟩
       refine Go.VG.Sub.mk rfl ?_ ?_ ?_ ?_ <;> (repeat' first | trivial | apply ab | apply au | apply aE)
       . (simp (discharger := omega) only [wR]; omega)
       . rw [az, Ab (by omega), A4]
         first
         | (rw [if_pos (by omega)]; simp [bl, cN, bv]; done)
         | (rw [if_neg (by omega)]; simp [bl, cN, bv]; done)
      )
    | skip
   . rw [List.take_of_length_le (by omega)]
     simp only [List.length_append, bN, List.length_cons, List.length_nil]; omega
   . refine a7.mk [] ?_ <;> (repeat' first | trivial | apply ab | apply aE)
     rw [List.take_of_length_le (by omega)]
     simp [bl, cN, bv]
 rw [if_neg h7] at ht hj
 rw [hj]
 repeat' ((conv => whnf); apply a9)
 all_goals try conv => whnf
 all_goals try (refine a8.mk ?_; try dsimp only)
 all_goals try ((refine And.intro (ba _) ?_; simp only [az]; repeat' (refine And.intro ?_ ?_)); all_goals (first | assumption | omega); done)
 simp only [az, ht]
 repeat' ((conv => whnf); apply a9)
 all_goals try conv => whnf
 all_goals try (refine a8.mk ?_; try dsimp only)
 all_goals first | refine stay ?_ | (simp only [aW]; omega) | skip
 refine a7.mk [] ?_ <;> (repeat' first | trivial)
theorem B8 : ∀ k : Nat, aa 158 (qG k)
 | 0 => CL fun _ _ _ h => by omega
 | k + 1 => CL fun v l h1 h2 h3 h4 => f_lay (B8 k) v l h1 h2 h3 h4
def x9 : Sm := fun args σ => match args, σ with
 | [.list true _ [], x], [] => some (dV x ∧ (aY x).ok ∧ (aY x).size ≤ 300000, .buf 0, some [.buf 1 0 (bl (json (aY x)))])
 | _, _ => none
theorem k_lay : aa 158 x9 := by
 intro args sg pre x r he hp
 unfold x9 at he
 split at he <;> cases he
 rename_i z y
 refine cW.nil 0 _ 0 rfl ?_
 exact (B8 ((aY y).nodes + 1)) [.buf 0, y] [.buf 1 0 []] _ _ _ rfl ⟨hp.1, hp.2.1, Nat.lt_succ_self _, hp.2.2, by have := hp.2.2; simp; omega⟩
end Go.Proofs.YtipejldppicijaaGreatDoor
