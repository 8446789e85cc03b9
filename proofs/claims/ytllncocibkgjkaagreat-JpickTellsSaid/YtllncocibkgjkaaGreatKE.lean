/-
  A part of the proof.
-/
import Derived.Test.YtllncocibkgjkaaGreatKC
import Derived.Test.YtllncocibkgjkaaGreatJTy
import Derived.Test.YtllncocibkgjkaaGreatJNw
set_option linter.unusedSimpArgs false
set_option linter.unusedVariables false
set_option maxHeartbeats 4000000
namespace Go.Proofs.YtllncocibkgjkaaGreat
open Go Go.VG
set_option maxRecDepth 100000
theorem p6 {t : List UInt8} {i j k : Nat} (h : i ≤ j) (h2 : j ≤ k) : sub t i k = sub t i j ++ sub t j k := by
 unfold sub
 rw [← List.take_append_drop (j - i) ((t.take k).drop i), List.drop_drop, List.take_drop, List.take_take]
 rw [show i + (j - i) = j by omega, Nat.min_eq_left h2]
theorem CJ (t : List UInt8) : sub t 0 t.length = t := by unfold sub; rw [List.take_length]; rfl
theorem p7 {t : List UInt8} {i j : Nat} (h : j ≤ t.length) : (sub t i j).length = j - i := by unfold sub; rw [List.length_drop, List.length_take]; omega
theorem sub_one {t : List UInt8} {i : Nat} (h : i < t.length) : sub t i (i + 1) = [t.getD i 0] := cut1 0 h
theorem sx {t : List UInt8} {i : Nat} (h : (bW t i).2 = 0) : i < (bW t i).1 ∧ aL (sub t i (bW t i).1) := by
 unfold bW at h ⊢
 split
 . rename_i q
   refine ⟨q, fun b hb => ?_⟩
   have e : sub t i (dx t i) = (t.drop i).takeWhile aN := by
    unfold sub dx cu
    rw [List.drop_take, show i + ((t.drop i).takeWhile aN).length - i = ((t.drop i).takeWhile aN).length by omega]
    exact List.prefix_iff_eq_take.1 (List.takeWhile_prefix _) |>.symm
   rw [e] at hb
   exact List.all_eq_true.1 List.all_takeWhile _ hb
 . rename_i q
   rw [if_neg q] at h
   split at h <;> cases h
structure NumF (s : List UInt8) (m : Bool) (w b p : List UInt8) (e : UInt8) : Prop where
 eq : s = (if m = true then [45] else []) ++ (w ++ ((if b = [] then [] else 46 :: b) ++ (if p = [] then [] else e :: p)))
 w0 : w ≠ []
 wd : aL w
 bd : aL b
 he : e.toNat = 101 ∨ e.toNat = 69
 pd : p = [] ∨ ∃ g ds, p = g ++ ds ∧ (g = [] ∨ g = [43] ∨ g = [45]) ∧ ds ≠ [] ∧ aL ds
theorem Cr {t : List UInt8} {i a b : Nat} : (bo t i a b = i ∧ sub t i (bo t i a b) = [] ∧ bI t i a b = false) ∨ (bo t i a b = i + 1 ∧ sub t i (bo t i a b) = [t.getD i 0] ∧ bI t i a b = true) := by
 unfold bo
 cases h : bI t i a b with
 | true => right; rw [if_pos rfl]; exact ⟨rfl, sub_one (eM.1 h).1, rfl⟩
 | false => left; rw [if_neg (by decide)]; exact ⟨rfl, sub_self _ _, rfl⟩
theorem vI {s : List UInt8} (h1 : (bR s 0).1 = s.length) (h2 : (bR s 0).2 = 0) :
   ∃ e, NumF s (bI s 0 45 45) (aO s 0).w (aO s 0).b (aO s 0).p e := by
 have g1 := nh s 0 45 45 (Nat.zero_le _)
 have w1 : (aM s 0).2 = 0 → bo s 0 45 45 < (aM s 0).1 ∧ (aM s 0).1 ≤ s.length ∧ aL (sub s (bo s 0 45 45) (aM s 0).1) := by
  unfold aM
  split
  . rename_i q
    have q := eM.1 q
    refine fun _ => ⟨Nat.lt_succ_self _, by dsimp only; omega, ?_⟩
    show aL (sub s _ (_ + 1))
    rw [sub_one q.1]
    intro b hb
    rw [List.mem_singleton.1 hb]; unfold aN; rw [decide_eq_true_eq]; omega
  . intro h
    exact ⟨(sx h).1, (kH s _ g1.2).2, (sx h).2⟩
 unfold bR gj at h1 h2
 have b0 : (bz s (aM s 0)).2 = 0 := by
  by_cases z : (bz s (aM s 0)).2 = 0
  . exact z
  . rw [if_neg (fun q => z q.1)] at h2; exact h2
 have w0 : (aM s 0).2 = 0 := by
  by_cases z : (aM s 0).2 = 0
  . exact z
  . unfold bz at b0; rw [if_neg (fun q => z q.1)] at b0; exact b0
 obtain ⟨w1, w2, w3⟩ := w1 w0
 have B : ∃ b, (if (aM s 0).2 = 0 ∧ bI s (aM s 0).1 46 46 = true then sub s ((aM s 0).1 + 1) (bz s (aM s 0)).1 else []) = b ∧ sub s (aM s 0).1 (bz s (aM s 0)).1 = (if b = [] then [] else 46 :: b) ∧ aL b ∧ (aM s 0).1 ≤ (bz s (aM s 0)).1 ∧ (bz s (aM s 0)).1 ≤ s.length := by
  unfold bz at b0 ⊢
  by_cases z : (aM s 0).2 = 0 ∧ bI s (aM s 0).1 46 46 = true
  . rw [if_pos z] at b0 ⊢
    rw [if_pos z]
    have q := eM.1 z.2
    have n := sx b0
    have n2 := (kH s ((aM s 0).1 + 1) (by omega)).2
    refine ⟨_, rfl, ?_, n.2, by omega, n2⟩
    have hl := p7 (t := s) (i := (aM s 0).1 + 1) n2
    rw [if_neg (fun e => by rw [e] at hl; simp at hl; omega), p6 (i := (aM s 0).1) (Nat.le_succ _) (by omega : (aM s 0).1 + 1 ≤ _), sub_one q.1]
    rw [show s.getD (aM s 0).1 0 = 46 from UInt8.toNat_inj.1 (by have := q.2; show _ = 46; omega)]; rfl
  . rw [if_neg z, if_neg z]
    exact ⟨_, rfl, by rw [if_pos rfl]; exact sub_self _ _, fun _ hb => (by cases hb), Nat.le_refl _, w2⟩
 obtain ⟨b, eb, b1, b2, b3, b4⟩ := B
 have P : ∃ p e, (if (bz s (aM s 0)).2 = 0 ∧ bI s (bz s (aM s 0)).1 101 69 = true then sub s ((bz s (aM s 0)).1 + 1) (bR s 0).1 else []) = p ∧ sub s (bz s (aM s 0)).1 s.length = (if p = [] then [] else e :: p) ∧ ((e : UInt8).toNat = 101 ∨ e.toNat = 69) ∧ (p = [] ∨ ∃ g ds, p = g ++ ds ∧ (g = [] ∨ g = [43] ∨ g = [45]) ∧ ds ≠ [] ∧ aL ds) := by
  unfold bR gj
  by_cases z : (bz s (aM s 0)).2 = 0 ∧ bI s (bz s (aM s 0)).1 101 69 = true
  . rw [if_pos z] at h1 h2 ⊢
    rw [if_pos z]
    have q := eM.1 z.2
    generalize (bz s (aM s 0)).1 = i at *
    have g2 := nh s (i + 1) 43 45 (by omega)
    have n := sx h2
    refine ⟨_, s.getD i 0, rfl, ?_, q.2, ?_⟩
    . have hl := p7 (t := s) (i := i + 1) (j := (bW s (bo s (i + 1) 43 45)).1) (by omega)
      rw [if_neg (fun e => by rw [e] at hl; simp at hl; omega), h1, p6 (i := i) (Nat.le_succ _) (by omega : i + 1 ≤ _), sub_one q.1]; rfl
    . right
      refine ⟨sub s (i + 1) (bo s (i + 1) 43 45), sub s (bo s (i + 1) 43 45) (bW s (bo s (i + 1) 43 45)).1, p6 g2.1 (by omega), ?_, ?_, n.2⟩
      . rcases Cr (t := s) (i := i + 1) (a := 43) (b := 45) with ⟨_, r, _⟩ | ⟨_, r, r2⟩
        . exact .inl r
        . rw [r]
          right
          rcases (eM.1 r2).2 with k | k
          . left; rw [show s.getD (i + 1) 0 = 43 from UInt8.toNat_inj.1 k]
          . right; rw [show s.getD (i + 1) 0 = 45 from UInt8.toNat_inj.1 k]
      . have hl := p7 (t := s) (i := bo s (i + 1) 43 45) (j := (bW s (bo s (i + 1) 43 45)).1) (by omega)
        intro e; rw [e] at hl; simp at hl; omega
  . rw [if_neg z] at h1 h2 ⊢
    refine ⟨_, 101, rfl, ?_, by decide, .inl rfl⟩
    rw [if_pos rfl, h1]; exact sub_self _ _
 obtain ⟨p, e, ep, p1, p2, p3⟩ := P
 refine ⟨e, ?_⟩
 have hw : (aO s 0).w = sub s (bo s 0 45 45) (aM s 0).1 := rfl
 have hb : (aO s 0).b = b := eb
 have hp : (aO s 0).p = p := ep
 rw [hw, hb, hp]
 refine ⟨?_, ?_, w3, b2, p2, p3⟩
 . rw [← p1, ← b1, ← p6 b3 b4, ← p6 (Nat.le_of_lt w1) w2]
   rcases Cr (t := s) (i := 0) (a := 45) (b := 45) with ⟨r1, r2, r3⟩ | ⟨r1, r2, r3⟩
   . rw [r3, r1, if_neg (by decide), List.nil_append, CJ]
   . rw [r3, r1, if_pos rfl]
     have : s.getD 0 0 = 45 := UInt8.toNat_inj.1 (by have := (eM.1 r3).2; show _ = 45; omega)
     rw [r1, this] at r2
     rw [← r2, ← p6 (Nat.le_succ _) (by have := (eM.1 r3).1; omega), CJ]
 . have hl := p7 (t := s) (i := bo s 0 45 45) w2
   intro e; rw [e] at hl; simp at hl; omega
end Go.Proofs.YtllncocibkgjkaaGreat
namespace Go.Proofs.YtllncocibkgjkaaGreat
open Go Go.VG
set_option maxRecDepth 100000
def bO (l : List UInt8) : Nat := l.foldl (fun n b => min 1099511627776 (10 * n + (b.toNat - 48))) 0
theorem uf (s : List UInt8) (b : UInt8) : bO (s ++ [b]) = min 1099511627776 (10 * bO s + (b.toNat - 48)) := by unfold bO; rw [List.foldl_append]; rfl
theorem nB (s : List UInt8) : bO s ≤ 1099511627776 := by
 rcases List.eq_nil_or_concat s with rfl | ⟨t, b, rfl⟩
 . decide
 . rw [List.concat_eq_append, uf]; exact Nat.min_le_left _ _
theorem ue {s : List UInt8} {i : Nat} (hi : i < s.length) : bO (s.take (i + 1)) = min 1099511627776 (10 * bO (s.take i) + ((s.getD i 0).toNat - 48)) := by rw [p9 hi, uf]
def e9 (p : List UInt8) : Int := if (p.getD 0 0).toNat = 45 then -(bO (p.filter aN) : Int) else bO (p.filter aN)
def rb (p : List UInt8) : Prop := ∃ g ds, p = g ++ ds ∧ (g = [] ∨ g = [43] ∨ g = [45]) ∧ ds ≠ [] ∧ aL ds
theorem uG {l : List UInt8} (h : aL l) : l.filter aN = l := List.filter_eq_self.2 h
theorem Ki {p : List UInt8} (h : rb p) : 0 < p.length ∧
   ((((p.getD 0 0).toNat = 45 ∨ (p.getD 0 0).toNat = 43) ∧ aL (p.drop 1) ∧ p.filter aN = p.drop 1) ∨ ((p.getD 0 0).toNat ≠ 45 ∧ (p.getD 0 0).toNat ≠ 43 ∧ aL p ∧ p.filter aN = p)) := by
 obtain ⟨g, ds, rfl, hg, h0, hd⟩ := h
 have hl : 0 < ds.length := by cases ds; exact absurd rfl h0; simp
 rcases hg with rfl | rfl | rfl
 . have := iN hd hl
   exact ⟨hl, .inr ⟨by show (ds.getD 0 0).toNat ≠ 45; omega, by show (ds.getD 0 0).toNat ≠ 43; omega, hd, uG hd⟩⟩
 . refine ⟨by simp, .inl ⟨.inr rfl, hd, ?_⟩⟩
   show (43 :: ds).filter aN = ds
   rw [List.filter_cons_of_neg (by decide), uG hd]
 . refine ⟨by simp, .inl ⟨.inl rfl, hd, ?_⟩⟩
   show (45 :: ds).filter aN = ds
   rw [List.filter_cons_of_neg (by decide), uG hd]
theorem FL (p : List UInt8) (hp : rb p ∧ p.length ≤ 100000000) : OK 110 ([.str p]) ([]) (.int .i64 (e9 p)) (none) := by
 refine au (C := cx []) (aq trivial) (fn := Tryz.f110) rfl rfl rfl rfl fun hw hs => ?_
 obtain ⟨hp, hl⟩ := hp
 obtain ⟨h0, hcs⟩ := Ki hp
 have hdl : (p.drop 1).length = p.length - 1 := List.length_drop
 repeat' ((conv => whnf); first | apply ak | (apply al <;> intro h) | with_reducible refine eH ?_ fun hc => ?_)
 all_goals try conv => whnf
 all_goals try (refine a9.mk ?_; try dsimp only)
 all_goals (try simp only [aK, cI, cJ] at *)
 all_goals first | refine stay ?_ | trivial | omega | skip
 . obtain ⟨_, k1, k2⟩ := hcs.resolve_right fun k => k.1 (by omega)
   have hd : aL (p.drop 1) := k1
   have ef : p.filter aN = p.drop 1 := k2
   refine aU.mk Nat (fun i => i ≤ (p.drop 1).length) (fun i => ⟨38, [(0, .str (p.drop 1)), (3, .bool (((p.getD 0 0).toNat : Int) == 45)), (4, .int .i64 (bO ((p.drop 1).take i))), (20, .int .i64 (p.drop 1).length), (21, .int .i64 i)], [], []⟩) (fun i => (p.drop 1).length - i) [] 0 (Nat.zero_le _) ?_ (fun i hle _ _ => ?_)
   . refine Go.VG.Sub.mk rfl ?_ ?_ ?_ ?_ <;> (repeat' first | trivial)
   have hb := fun h => iN hd (i := i) h
   have hn := fun h => ue (s := p.drop 1) (i := i) h
   have hcl := nB ((p.drop 1).take i)
   repeat' ((conv => whnf); first | apply ak | (apply al <;> intro h) | with_reducible refine c8 ?_ fun hc => ?_)
   all_goals try conv => whnf
   all_goals try (refine a9.mk ?_; try dsimp only)
   all_goals (try simp only [aK, cI, cJ] at *)
   all_goals first | refine stay ?_ | omega | skip
   . refine ⟨[], i + 1, by omega, ?_, by omega⟩
     have hb := hb (by omega)
     have hn := hn (by omega)
     refine Go.VG.Sub.mk rfl ?_ ?_ ?_ ?_ <;> (repeat' first | trivial | apply ae | apply aI)
     all_goals first
      | (rw [w8 hb, wI (n := (((p.drop 1).getD i 0).toNat - 48 : Nat)) (by omega) (by omega), wI (n := 10 * (bO ((p.drop 1).take i) : Int)) (by omega) (by omega), wI (n := 10 * (bO ((p.drop 1).take i) : Int) + (((p.drop 1).getD i 0).toNat - 48 : Nat)) (by omega) (by omega), hn]
         split <;> omega)
      | (simp (discharger := omega) only [wR]; omega)
   . rw [show e9 p = -(bO (p.filter aN) : Int) by unfold e9; rw [if_pos (by omega)], ef]
     rw [List.take_of_length_le (by omega)] at hcl ⊢
     refine a8.mk [] ?_ <;> (repeat' first | trivial | apply ae | apply aI)
     all_goals (show IntKind.i64.wrap (0 - _) = _; rw [Int.zero_sub, c5]; omega)
   . rw [show e9 p = (bO (p.filter aN) : Int) by unfold e9; rw [if_neg (by omega)], ef, List.take_of_length_le (by omega)]
     refine a8.mk [] ?_ <;> (repeat' first | trivial)
 . obtain ⟨_, k1, k2⟩ := hcs.resolve_right fun k => k.2.1 (by omega)
   have hd : aL (p.drop 1) := k1
   have ef : p.filter aN = p.drop 1 := k2
   refine aU.mk Nat (fun i => i ≤ (p.drop 1).length) (fun i => ⟨38, [(0, .str (p.drop 1)), (3, .bool (((p.getD 0 0).toNat : Int) == 45)), (4, .int .i64 (bO ((p.drop 1).take i))), (20, .int .i64 (p.drop 1).length), (21, .int .i64 i)], [], []⟩) (fun i => (p.drop 1).length - i) [] 0 (Nat.zero_le _) ?_ (fun i hle _ _ => ?_)
   . refine Go.VG.Sub.mk rfl ?_ ?_ ?_ ?_ <;> (repeat' first | trivial)
   have hb := fun h => iN hd (i := i) h
   have hn := fun h => ue (s := p.drop 1) (i := i) h
   have hcl := nB ((p.drop 1).take i)
   repeat' ((conv => whnf); first | apply ak | (apply al <;> intro h) | with_reducible refine c8 ?_ fun hc => ?_)
   all_goals try conv => whnf
   all_goals try (refine a9.mk ?_; try dsimp only)
   all_goals (try simp only [aK, cI, cJ] at *)
   all_goals first | refine stay ?_ | omega | skip
   . refine ⟨[], i + 1, by omega, ?_, by omega⟩
     have hb := hb (by omega)
     have hn := hn (by omega)
     refine Go.VG.Sub.mk rfl ?_ ?_ ?_ ?_ <;> (repeat' first | trivial | apply ae | apply aI)
     all_goals first
      | (rw [w8 hb, wI (n := (((p.drop 1).getD i 0).toNat - 48 : Nat)) (by omega) (by omega), wI (n := 10 * (bO ((p.drop 1).take i) : Int)) (by omega) (by omega), wI (n := 10 * (bO ((p.drop 1).take i) : Int) + (((p.drop 1).getD i 0).toNat - 48 : Nat)) (by omega) (by omega), hn]
         split <;> omega)
      | (simp (discharger := omega) only [wR]; omega)
   . rw [show e9 p = -(bO (p.filter aN) : Int) by unfold e9; rw [if_pos (by omega)], ef]
     rw [List.take_of_length_le (by omega)] at hcl ⊢
     refine a8.mk [] ?_ <;> (repeat' first | trivial)
     all_goals (show IntKind.i64.wrap (0 - _) = _; rw [Int.zero_sub, c5]; omega)
   . rw [show e9 p = (bO (p.filter aN) : Int) by unfold e9; rw [if_neg (by omega)], ef, List.take_of_length_le (by omega)]
     refine a8.mk [] ?_ <;> (repeat' first | trivial)
 . obtain ⟨_, _, k1, k2⟩ := hcs.resolve_left fun k => by omega
   have hd : aL (p) := k1
   have ef : p.filter aN = p := k2
   refine aU.mk Nat (fun i => i ≤ (p).length) (fun i => ⟨38, [(0, .str (p)), (3, .bool (((p.getD 0 0).toNat : Int) == 45)), (4, .int .i64 (bO ((p).take i))), (20, .int .i64 (p).length), (21, .int .i64 i)], [], []⟩) (fun i => (p).length - i) [] 0 (Nat.zero_le _) ?_ (fun i hle _ _ => ?_)
   . refine Go.VG.Sub.mk rfl ?_ ?_ ?_ ?_ <;> (repeat' first | trivial)
   have hb := fun h => iN hd (i := i) h
   have hn := fun h => ue (s := p) (i := i) h
   have hcl := nB ((p).take i)
   repeat' ((conv => whnf); first | apply ak | (apply al <;> intro h) | with_reducible refine c8 ?_ fun hc => ?_)
   all_goals try conv => whnf
   all_goals try (refine a9.mk ?_; try dsimp only)
   all_goals (try simp only [aK, cI, cJ] at *)
   all_goals first | refine stay ?_ | omega | skip
   . refine ⟨[], i + 1, by omega, ?_, by omega⟩
     have hb := hb (by omega)
     have hn := hn (by omega)
     refine Go.VG.Sub.mk rfl ?_ ?_ ?_ ?_ <;> (repeat' first | trivial | apply ae | apply aI)
     all_goals first
      | (rw [w8 hb, wI (n := (((p).getD i 0).toNat - 48 : Nat)) (by omega) (by omega), wI (n := 10 * (bO ((p).take i) : Int)) (by omega) (by omega), wI (n := 10 * (bO ((p).take i) : Int) + (((p).getD i 0).toNat - 48 : Nat)) (by omega) (by omega), hn]
         split <;> omega)
      | (simp (discharger := omega) only [wR]; omega)
   . rw [show e9 p = -(bO (p.filter aN) : Int) by unfold e9; rw [if_pos (by omega)], ef]
     rw [List.take_of_length_le (by omega)] at hcl ⊢
     refine a8.mk [] ?_ <;> (repeat' first | trivial)
     all_goals (show IntKind.i64.wrap (0 - _) = _; rw [Int.zero_sub, c5]; omega)
   . rw [show e9 p = (bO (p.filter aN) : Int) by unfold e9; rw [if_neg (by omega)], ef, List.take_of_length_le (by omega)]
     refine a8.mk [] ?_ <;> (repeat' first | trivial)
def wS : Sm := fun args σ => match args, σ with
 | [.str p], [] => some (rb p ∧ p.length ≤ 100000000, .int .i64 (e9 p), none)
 | _, _ => none
theorem I2 : aw 110 wS := by
 intro args sg pre x r he hp
 unfold wS at he
 split at he <;> cases he
 . exact FL (hp := hp) ..
def dN (s : List UInt8) : List UInt8 := s.dropWhile (· == 48)
theorem CX {s : List UInt8} (h : s ≠ []) (h2 : (s.getD 0 0).toNat = 48) : dN s = dN (s.drop 1) := by
 cases s with
 | nil => exact absurd rfl h
 | cons b s => unfold dN; rw [List.dropWhile_cons, if_pos (by rw [show b = 48 from UInt8.toNat_inj.1 h2]; rfl)]; rfl
theorem yc {s : List UInt8} (h : s = [] ∨ (s.getD 0 0).toNat ≠ 48) : dN s = s := by
 cases s with
 | nil => rfl
 | cons b s =>
   rcases h with h | h
   . cases h
   . unfold dN; rw [List.dropWhile_cons, if_neg (by rw [beq_iff_eq]; intro e; rw [e] at h; exact h rfl)]
theorem FP (s : List UInt8) (hp : s.length ≤ 100000000) : OK 79 ([.str s]) ([]) (.str (dN s)) (none) := by
 refine au (C := cx []) (aq trivial) (fn := Tryz.f79) rfl rfl rfl rfl fun hw hs => ?_
 refine aU.mk (List UInt8) (fun x => dN s = dN x ∧ x.length ≤ s.length) (fun x => ⟨13, [(0, .str x)], [], []⟩) (fun x => x.length) [] s ⟨rfl, Nat.le_refl _⟩ ?_ (fun x ⟨hx, hl⟩ _ _ => ?_)
 . refine Go.VG.Sub.mk rfl ?_ ?_ ?_ ?_ <;> (repeat' first | trivial)
 have hne : x ≠ [] → 0 < x.length := fun h => by cases x; exact absurd rfl h; simp
 have hdl : (x.drop 1).length = x.length - 1 := List.length_drop
 repeat' ((conv => whnf); first | apply ak | apply aW | ((first | apply al | apply ga) <;> intro h) | with_reducible refine eH ?_ fun hc => ?_)
 all_goals try conv => whnf
 all_goals try (refine a9.mk ?_; try dsimp only)
 all_goals (try simp only [aK, cI, cJ] at *)
 all_goals first | refine stay ?_ | trivial | skip
 . rw [hx, yc (.inl ‹_›)]
   refine a8.mk [] ?_ <;> (repeat' first | trivial)
 . exact hne ‹_›
 . have := hne ‹_›
   exact ⟨by omega, by omega⟩
 . have := hne ‹_›
   refine ⟨[], x.drop 1, ⟨by rw [hx, CX ‹_› (by omega)], by omega⟩, ?_, by omega⟩
   refine Go.VG.Sub.mk rfl ?_ ?_ ?_ ?_ <;> (repeat' first | trivial)
 . rw [hx, yc (.inr (by omega))]
   refine a8.mk [] ?_ <;> (repeat' first | trivial)
def wW : Sm := fun args σ => match args, σ with
 | [.str s], [] => some (s.length ≤ 100000000, .str (dN s), none)
 | _, _ => none
theorem I5 : aw 79 wW := by
 intro args sg pre x r he hp
 unfold wW at he
 split at he <;> cases he
 . exact FP (hp := hp) ..
def nL (e : UInt8) (p : List UInt8) : List UInt8 := if p = [] then [] else e :: p
def aQ (b : List UInt8) : List UInt8 := if b = [] then [] else 46 :: b
structure jz (u w b p : List UInt8) (e : UInt8) : Prop where
 eq : u = (w ++ aQ b) ++ nL e p
 wd : aL w
 bd : aL b
 he : e.toNat = 101 ∨ e.toNat = 69
 pd : p = [] ∨ rb p
theorem pX {a b : List UInt8} {i : Nat} (h : i < a.length) : (a ++ b).getD i 0 = a.getD i 0 := by
 rw [List.getD_eq_getElem?_getD, List.getD_eq_getElem?_getD, List.getElem?_append_left h]
theorem zZ {a b : List UInt8} : (a ++ b).getD a.length 0 = b.getD 0 0 := by
 rw [List.getD_eq_getElem?_getD, List.getD_eq_getElem?_getD, List.getElem?_append_right (Nat.le_refl _), Nat.sub_self]
theorem uv {w b : List UInt8} (hw : aL w) (hb : aL b) {i : Nat} (hi : i < (w ++ aQ b).length) : ((w ++ aQ b).getD i 0).toNat = 46 ∧ i = w.length ∧ b ≠ [] ∨ (48 ≤ ((w ++ aQ b).getD i 0).toNat ∧ ((w ++ aQ b).getD i 0).toNat ≤ 57 ∧ (i = w.length → False)) := by
 unfold aQ at hi ⊢
 rcases Nat.lt_trichotomy i w.length with q | q | q
 . rw [pX q]; have := iN hw q; exact .inr ⟨this.1, this.2, by omega⟩
 . subst q
   rw [zZ]
   by_cases e : b = []
   . rw [if_pos e] at hi; simp at hi
   . rw [if_neg e]; exact .inl ⟨rfl, rfl, e⟩
 . by_cases e : b = []
   . rw [if_pos e] at hi; simp at hi; omega
   . rw [if_neg e] at hi ⊢
     rw [List.length_append, List.length_cons] at hi
     have := iN hb (i := i - w.length - 1) (by omega)
     rw [List.getD_eq_getElem?_getD, List.getElem?_append_right (by omega), show i - w.length = i - w.length - 1 + 1 by omega, List.getElem?_cons_succ, ← List.getD_eq_getElem?_getD]
     exact .inr ⟨this.1, this.2, by omega⟩
theorem jz.lg {u w b p : List UInt8} {e : UInt8} (h : jz u w b p e) {i : Nat} (hi : i < (w ++ aQ b).length) : (u.getD i 0).toNat ≠ 101 ∧ (u.getD i 0).toNat ≠ 69 := by
 rw [h.eq, pX hi]
 rcases uv h.wd h.bd hi with k | k <;> omega
theorem jz.len {u w b p : List UInt8} {e : UInt8} (h : jz u w b p e) : u.length = (w ++ aQ b).length + (nL e p).length := by rw [h.eq, List.length_append]
theorem jz.jD {u w b p : List UInt8} {e : UInt8} (h : jz u w b p e) {i : Nat} (hi : i < u.length) (hk : ¬ i < (w ++ aQ b).length) (hle : i ≤ (w ++ aQ b).length) : i = (w ++ aQ b).length ∧ p ≠ [] ∧ ((u.getD i 0).toNat = 101 ∨ (u.getD i 0).toNat = 69) ∧ u.drop (i + 1) = p ∧ u.take i = w ++ aQ b := by
 have hl := h.len
 have e0 : i = (w ++ aQ b).length := by omega
 have hp : p ≠ [] := fun k => by rw [k, show nL e [] = [] from rfl, List.length_nil] at hl; omega
 have hu := h.eq
 unfold nL at hu
 rw [if_neg hp] at hu
 refine ⟨e0, hp, ?_, ?_, ?_⟩
 . rw [e0, hu, zZ]; exact h.he
 . rw [e0, hu, show (w ++ aQ b) ++ e :: p = ((w ++ aQ b) ++ [e]) ++ p by simp, show (w ++ aQ b).length + 1 = ((w ++ aQ b) ++ [e]).length by rw [show ((w ++ aQ b) ++ [e]).length = (w ++ aQ b).length + [e].length from List.length_append]; rfl]
   exact List.drop_left
 . rw [e0, hu]; exact List.take_left
theorem jz.zp {u w b p : List UInt8} {e : UInt8} (h : jz u w b p e) {i : Nat} (hi : ¬ i < u.length) (hle : i ≤ (w ++ aQ b).length) : p = [] ∧ u = w ++ aQ b := by
 have hl := h.len
 have hu := h.eq
 unfold nL at hl hu
 by_cases k : p = []
 . rw [if_pos k, List.append_nil] at hu; exact ⟨k, hu⟩
 . rw [if_neg k, List.length_cons] at hl; omega
theorem nG {w b : List UInt8} (hw : aL w) (hb : aL b) {i : Nat} (hi : i < (w ++ aQ b).length) (h : ((w ++ aQ b).getD i 0).toNat = 46) : (w ++ aQ b).take i = w ∧ (w ++ aQ b).drop (i + 1) = b := by
 rcases uv hw hb hi with k | k
 . obtain ⟨_, rfl, k⟩ := k
   unfold aQ
   rw [if_neg k]
   refine ⟨List.take_left, ?_⟩
   rw [show w ++ 46 :: b = (w ++ [46]) ++ b by simp, show w.length + 1 = (w ++ [46]).length by rw [List.length_append]; rfl]
   exact List.drop_left
 . omega
theorem nE {w b : List UInt8} (hw : aL w) (hb : aL b) {i : Nat} (hi : ¬ i < (w ++ aQ b).length) (hle : i ≤ w.length) : b = [] ∧ w ++ aQ b = w := by
 unfold aQ at hi ⊢
 by_cases k : b = []
 . rw [if_pos k, List.append_nil]; exact ⟨k, rfl⟩
 . rw [if_neg k] at hi; simp at hi; omega
theorem nF {w b : List UInt8} (hw : aL w) (hb : aL b) {i : Nat} (hi : i < (w ++ aQ b).length) (hle : i ≤ w.length) (h : ((w ++ aQ b).getD i 0).toNat ≠ 46) : i + 1 ≤ w.length := by
 rcases uv hw hb hi with k | k
 . exact absurd k.1 h
 . rcases Nat.lt_or_eq_of_le hle with q | q
   . exact q
   . exact absurd q k.2.2
def jX (s : List UInt8) : Prop := (bR s 0).1 = s.length ∧ (bR s 0).2 = 0
def bZ (p : List UInt8) : Int := if p = [] then 0 else e9 p
theorem sK {p : List UInt8} (h : p ≠ []) : e9 p = bZ p := by unfold bZ; rw [if_neg h]
theorem FN (s : List UInt8) (hp : jX s ∧ s.length ≤ 100000000) : OK 78 ([.str s]) ([]) (.agg [.bool (bI s 0 45 45), .str (aO s 0).w, .str (aO s 0).b, .int .i64 (bZ (aO s 0).p)]) (none) := by
  refine au (C := cx [(110, wS)]) (aq ⟨I2, trivial⟩) (fn := Tryz.f78) rfl rfl rfl rfl fun hw hs => ?_
  obtain ⟨hp, hl⟩ := hp
  obtain ⟨e, hp⟩ := vI hp.1 hp.2
  generalize bI s 0 45 45 = m at *
  generalize (aO s 0).w = w at *
  generalize (aO s 0).b = b at *
  generalize (aO s 0).p = p at *
  have hs1 : (if m = true then [(45 : UInt8)] else []).length = if m = true then 1 else 0 := by cases m <;> rfl
  have hs2 : s.drop (if m = true then 1 else 0) = (w ++ aQ b) ++ nL e p := by
   have h := hp.eq
   rw [h, ← hs1, List.append_assoc]
   exact List.drop_left
  have hu : jz (s.drop (if m = true then 1 else 0)) w b p e := ⟨hs2, hp.wd, hp.bd, hp.he, hp.pd⟩
  have hw0 : 0 < w.length := by have := hp.w0; cases w; exact absurd rfl this; simp
  have hm : (s.getD 0 0).toNat = 45 ↔ m = true := by
   rw [hp.eq]
   cases m with
   | true => simp
   | false =>
     rw [if_neg (by decide), List.nil_append, pX (by omega)]
     have := iN hp.wd hw0
     exact ⟨fun q => by omega, fun q => by cases q⟩
  have h0 : 0 < s.length := by
   have e := congrArg List.length hs2
   rw [List.length_drop, List.length_append, List.length_append] at e
   generalize (if m = true then 1 else 0) = k at e
   omega
  cases m with
  | true =>
    rw [if_pos rfl] at hu
    have hm := hm.2 rfl
    have hdl : (s.drop 1).length = s.length - 1 := List.length_drop
    repeat' ((conv => whnf); first | apply ak | (apply al <;> intro h) | with_reducible refine eH ?_ fun hc => ?_)
    all_goals try conv => whnf
    all_goals try (refine a9.mk ?_; try dsimp only)
    all_goals (try simp only [aK, cI, cJ] at *)
    all_goals first | refine stay ?_ | trivial | omega | skip
    . have hdl : (s.drop 1).length ≤ 100000000 := by omega
      generalize s.drop 1 = u at *
      have hul : u.length ≤ 100000000 := hdl
      refine aU.mk Nat (fun i => i ≤ (w ++ aQ b).length ∧ i ≤ u.length) (fun i => ⟨59, [(0, .str u), (2, .ptr 0 0), (3, .ptr 1 0), (13, .int .i64 u.length), (14, .int .i64 i)], [.cells [.bool false, .str [], .str [], .int .i64 0], .cells [.bool true, .str [], .str [], .int .i64 0]], []⟩) (fun i => u.length - i) [] 0 ⟨Nat.zero_le _, Nat.zero_le _⟩ ?_ (fun i ⟨hi, hi2⟩ _ _ => ?_)
      . refine Go.VG.Sub.mk rfl ?_ ?_ ?_ ?_ <;> (repeat' first | trivial)
      have hw1 : i < u.length → IntKind.i64.wrap ((i : Int) + 1) = ((i + 1 : Nat) : Int) := fun h => by rw [c5]; omega
      repeat' ((conv => whnf); first | apply ak | (apply al <;> intro h) | with_reducible refine c8 ?_ fun hc => ?_)
      all_goals try conv => whnf
      all_goals try (refine a9.mk ?_; try dsimp only)
      all_goals (try rw [hw1 (by omega)])
      all_goals (try simp only [aK, cI, cJ] at *)
      all_goals first | refine stay ?_ | omega | skip
      . obtain ⟨_, y2, _, y4, y5⟩ := hu.jD (i := i) (by omega) (fun k => by have := hu.lg k; omega) hi
        exact ⟨by rw [Int.toNat_natCast, y4]; exact hu.pd.resolve_left y2, by rw [List.length_drop]; omega⟩
      . obtain ⟨_, y2, _, y4, y5⟩ := hu.jD (i := i) (by omega) (fun k => by have := hu.lg k; omega) hi
        have KT : u.take ((i : Nat) : Int).toNat = w ++ aQ b := y5
        have KP : e9 (u.drop (((i + 1 : Nat) : Int)).toNat) = bZ p := by rw [Int.toNat_natCast, y4]; exact sK y2
        refine aU.mk Nat (fun i => i ≤ w.length ∧ i ≤ (w ++ aQ b).length) (fun i => ⟨59, [(0, .str (w ++ aQ b)), (2, .ptr 0 0), (3, .ptr 1 0), (40, .int .i64 (w ++ aQ b).length), (41, .int .i64 i)], [.cells [.bool false, .str [], .str [], .int .i64 0], .cells [.bool true, .str (w ++ aQ b), .str [], .int .i64 (bZ p)]], []⟩) (fun i => (w ++ aQ b).length - i) [] 0 ⟨Nat.zero_le _, Nat.zero_le _⟩ ?_ (fun i ⟨hi, hi2⟩ _ _ => ?_)
        . refine Go.VG.Sub.mk rfl ?_ ?_ ?_ ?_ <;> (repeat' first | trivial | apply ae | apply cC | apply aI | apply gC | apply bU)
          all_goals first
           | exact KT
           | exact KP
           | exact congrArg _ (congrArg _ KT)
        have hw1 : i < (w ++ aQ b).length → IntKind.i64.wrap ((i : Int) + 1) = ((i + 1 : Nat) : Int) := fun h => by
         have := congrArg List.length KT
         rw [c5]; omega
        repeat' ((conv => whnf); first | apply ak | (apply al <;> intro h) | with_reducible refine c8 ?_ fun hc => ?_)
        all_goals try conv => whnf
        all_goals try (refine a9.mk ?_; try dsimp only)
        all_goals (try rw [hw1 (by omega)])
        all_goals (try simp only [aK, cI, cJ] at *)
        all_goals first | refine stay ?_ | omega | skip
        . obtain ⟨q1, q2⟩ := nG hu.wd hu.bd (i := i) (by omega) (by omega)
          refine a8.mk [] ?_ <;> (repeat' first | trivial | apply ae | apply cC | apply fZ | apply bU)
          all_goals first
           | exact q1
           | exact q2
        . refine ⟨[], i + 1, ⟨nF hu.wd hu.bd (i := i) (by omega) hi (by omega), by omega⟩, ?_, by omega⟩
          refine Go.VG.Sub.mk rfl ?_ ?_ ?_ ?_ <;> (repeat' first | trivial)
        . obtain ⟨q1, q2⟩ := nE hu.wd hu.bd (i := i) (by omega) hi
          refine a8.mk [] ?_ <;> (repeat' first | trivial | apply ae | apply cC | apply fZ | apply bU)
          all_goals first
           | exact q2
           | exact q1.symm
      . obtain ⟨_, y2, _, y4, y5⟩ := hu.jD (i := i) (by omega) (fun k => by have := hu.lg k; omega) hi
        exact ⟨by rw [Int.toNat_natCast, y4]; exact hu.pd.resolve_left y2, by rw [List.length_drop]; omega⟩
      . obtain ⟨_, y2, _, y4, y5⟩ := hu.jD (i := i) (by omega) (fun k => by have := hu.lg k; omega) hi
        have KT : u.take ((i : Nat) : Int).toNat = w ++ aQ b := y5
        have KP : e9 (u.drop (((i + 1 : Nat) : Int)).toNat) = bZ p := by rw [Int.toNat_natCast, y4]; exact sK y2
        refine aU.mk Nat (fun i => i ≤ w.length ∧ i ≤ (w ++ aQ b).length) (fun i => ⟨59, [(0, .str (w ++ aQ b)), (2, .ptr 0 0), (3, .ptr 1 0), (40, .int .i64 (w ++ aQ b).length), (41, .int .i64 i)], [.cells [.bool false, .str [], .str [], .int .i64 0], .cells [.bool true, .str (w ++ aQ b), .str [], .int .i64 (bZ p)]], []⟩) (fun i => (w ++ aQ b).length - i) [] 0 ⟨Nat.zero_le _, Nat.zero_le _⟩ ?_ (fun i ⟨hi, hi2⟩ _ _ => ?_)
        . refine Go.VG.Sub.mk rfl ?_ ?_ ?_ ?_ <;> (repeat' first | trivial | apply ae | apply cC | apply aI | apply gC | apply bU)
          all_goals first
           | exact KT
           | exact KP
           | exact congrArg _ (congrArg _ KT)
        have hw1 : i < (w ++ aQ b).length → IntKind.i64.wrap ((i : Int) + 1) = ((i + 1 : Nat) : Int) := fun h => by
         have := congrArg List.length KT
         rw [c5]; omega
        repeat' ((conv => whnf); first | apply ak | (apply al <;> intro h) | with_reducible refine c8 ?_ fun hc => ?_)
        all_goals try conv => whnf
        all_goals try (refine a9.mk ?_; try dsimp only)
        all_goals (try rw [hw1 (by omega)])
        all_goals (try simp only [aK, cI, cJ] at *)
        all_goals first | refine stay ?_ | omega | skip
        . obtain ⟨q1, q2⟩ := nG hu.wd hu.bd (i := i) (by omega) (by omega)
          refine a8.mk [] ?_ <;> (repeat' first | trivial | apply ae | apply cC | apply fZ | apply bU)
          all_goals first
           | exact q1
           | exact q2
        . refine ⟨[], i + 1, ⟨nF hu.wd hu.bd (i := i) (by omega) hi (by omega), by omega⟩, ?_, by omega⟩
          refine Go.VG.Sub.mk rfl ?_ ?_ ?_ ?_ <;> (repeat' first | trivial)
        . obtain ⟨q1, q2⟩ := nE hu.wd hu.bd (i := i) (by omega) hi
          refine a8.mk [] ?_ <;> (repeat' first | trivial | apply ae | apply cC | apply fZ | apply bU)
          all_goals first
           | exact q2
           | exact q1.symm
      . refine ⟨[], i + 1, ⟨?_, by omega⟩, ?_, by omega⟩
        . rcases Nat.lt_or_eq_of_le hi with q | q
          . exact q
          . have := hu.jD (i := i) (by omega) (by omega) hi
            omega
        refine Go.VG.Sub.mk rfl ?_ ?_ ?_ ?_ <;> (repeat' first | trivial)
      . obtain ⟨y2, y5⟩ := hu.zp (i := i) (by omega) hi
        have KT : u = w ++ aQ b := y5
        have KP : (0 : Int) = bZ p := by rw [y2]; rfl
        refine aU.mk Nat (fun i => i ≤ w.length ∧ i ≤ (w ++ aQ b).length) (fun i => ⟨59, [(0, .str (w ++ aQ b)), (2, .ptr 0 0), (3, .ptr 1 0), (40, .int .i64 (w ++ aQ b).length), (41, .int .i64 i)], [.cells [.bool false, .str [], .str [], .int .i64 0], .cells [.bool true, .str (w ++ aQ b), .str [], .int .i64 (bZ p)]], []⟩) (fun i => (w ++ aQ b).length - i) [] 0 ⟨Nat.zero_le _, Nat.zero_le _⟩ ?_ (fun i ⟨hi, hi2⟩ _ _ => ?_)
        . refine Go.VG.Sub.mk rfl ?_ ?_ ?_ ?_ <;> (repeat' first | trivial | apply ae | apply cC | apply aI | apply gC | apply bU)
          all_goals first
           | exact KT
           | exact KP
           | exact congrArg _ (congrArg _ KT)
        have hw1 : i < (w ++ aQ b).length → IntKind.i64.wrap ((i : Int) + 1) = ((i + 1 : Nat) : Int) := fun h => by
         have := congrArg List.length KT
         rw [c5]; omega
        repeat' ((conv => whnf); first | apply ak | (apply al <;> intro h) | with_reducible refine c8 ?_ fun hc => ?_)
        all_goals try conv => whnf
        all_goals try (refine a9.mk ?_; try dsimp only)
        all_goals (try rw [hw1 (by omega)])
        all_goals (try simp only [aK, cI, cJ] at *)
        all_goals first | refine stay ?_ | omega | skip
        . obtain ⟨q1, q2⟩ := nG hu.wd hu.bd (i := i) (by omega) (by omega)
          refine a8.mk [] ?_ <;> (repeat' first | trivial | apply ae | apply cC | apply fZ | apply bU)
          all_goals first
           | exact q1
           | exact q2
        . refine ⟨[], i + 1, ⟨nF hu.wd hu.bd (i := i) (by omega) hi (by omega), by omega⟩, ?_, by omega⟩
          refine Go.VG.Sub.mk rfl ?_ ?_ ?_ ?_ <;> (repeat' first | trivial)
        . obtain ⟨q1, q2⟩ := nE hu.wd hu.bd (i := i) (by omega) hi
          refine a8.mk [] ?_ <;> (repeat' first | trivial | apply ae | apply cC | apply fZ | apply bU)
          all_goals first
           | exact q2
           | exact q1.symm
    . omega
  | false =>
    rw [if_neg (by decide)] at hu
    have hm : ¬ (s.getD 0 0).toNat = 45 := fun h => by cases hm.1 h
    repeat' ((conv => whnf); first | apply ak | (apply al <;> intro h) | with_reducible refine eH ?_ fun hc => ?_)
    all_goals try conv => whnf
    all_goals try (refine a9.mk ?_; try dsimp only)
    all_goals (try simp only [aK, cI, cJ] at *)
    all_goals first | refine stay ?_ | trivial | omega | skip
    . omega
    . have hu : jz s w b p e := hu
      generalize s = u at *
      have hul : u.length ≤ 100000000 := hl
      refine aU.mk Nat (fun i => i ≤ (w ++ aQ b).length ∧ i ≤ u.length) (fun i => ⟨59, [(0, .str u), (2, .ptr 0 0), (3, .ptr 1 0), (13, .int .i64 u.length), (14, .int .i64 i)], [.cells [.bool false, .str [], .str [], .int .i64 0], .cells [.bool false, .str [], .str [], .int .i64 0]], []⟩) (fun i => u.length - i) [] 0 ⟨Nat.zero_le _, Nat.zero_le _⟩ ?_ (fun i ⟨hi, hi2⟩ _ _ => ?_)
      . refine Go.VG.Sub.mk rfl ?_ ?_ ?_ ?_ <;> (repeat' first | trivial)
      have hw1 : i < u.length → IntKind.i64.wrap ((i : Int) + 1) = ((i + 1 : Nat) : Int) := fun h => by rw [c5]; omega
      repeat' ((conv => whnf); first | apply ak | (apply al <;> intro h) | with_reducible refine c8 ?_ fun hc => ?_)
      all_goals try conv => whnf
      all_goals try (refine a9.mk ?_; try dsimp only)
      all_goals (try rw [hw1 (by omega)])
      all_goals (try simp only [aK, cI, cJ] at *)
      all_goals first | refine stay ?_ | omega | skip
      . obtain ⟨_, y2, _, y4, y5⟩ := hu.jD (i := i) (by omega) (fun k => by have := hu.lg k; omega) hi
        exact ⟨by rw [Int.toNat_natCast, y4]; exact hu.pd.resolve_left y2, by rw [List.length_drop]; omega⟩
      . obtain ⟨_, y2, _, y4, y5⟩ := hu.jD (i := i) (by omega) (fun k => by have := hu.lg k; omega) hi
        have KT : u.take ((i : Nat) : Int).toNat = w ++ aQ b := y5
        have KP : e9 (u.drop (((i + 1 : Nat) : Int)).toNat) = bZ p := by rw [Int.toNat_natCast, y4]; exact sK y2
        refine aU.mk Nat (fun i => i ≤ w.length ∧ i ≤ (w ++ aQ b).length) (fun i => ⟨59, [(0, .str (w ++ aQ b)), (2, .ptr 0 0), (3, .ptr 1 0), (40, .int .i64 (w ++ aQ b).length), (41, .int .i64 i)], [.cells [.bool false, .str [], .str [], .int .i64 0], .cells [.bool false, .str (w ++ aQ b), .str [], .int .i64 (bZ p)]], []⟩) (fun i => (w ++ aQ b).length - i) [] 0 ⟨Nat.zero_le _, Nat.zero_le _⟩ ?_ (fun i ⟨hi, hi2⟩ _ _ => ?_)
        . refine Go.VG.Sub.mk rfl ?_ ?_ ?_ ?_ <;> (repeat' first | trivial | apply ae | apply cC | apply aI | apply gC | apply bU)
          all_goals first
           | exact KT
           | exact KP
           | exact congrArg _ (congrArg _ KT)
        have hw1 : i < (w ++ aQ b).length → IntKind.i64.wrap ((i : Int) + 1) = ((i + 1 : Nat) : Int) := fun h => by
         have := congrArg List.length KT
         rw [c5]; omega
        repeat' ((conv => whnf); first | apply ak | (apply al <;> intro h) | with_reducible refine c8 ?_ fun hc => ?_)
        all_goals try conv => whnf
        all_goals try (refine a9.mk ?_; try dsimp only)
        all_goals (try rw [hw1 (by omega)])
        all_goals (try simp only [aK, cI, cJ] at *)
        all_goals first | refine stay ?_ | omega | skip
        . obtain ⟨q1, q2⟩ := nG hu.wd hu.bd (i := i) (by omega) (by omega)
          refine a8.mk [] ?_ <;> (repeat' first | trivial | apply ae | apply cC | apply fZ | apply bU)
          all_goals first
           | exact q1
           | exact q2
        . refine ⟨[], i + 1, ⟨nF hu.wd hu.bd (i := i) (by omega) hi (by omega), by omega⟩, ?_, by omega⟩
          refine Go.VG.Sub.mk rfl ?_ ?_ ?_ ?_ <;> (repeat' first | trivial)
        . obtain ⟨q1, q2⟩ := nE hu.wd hu.bd (i := i) (by omega) hi
          refine a8.mk [] ?_ <;> (repeat' first | trivial | apply ae | apply cC | apply fZ | apply bU)
          all_goals first
           | exact q2
           | exact q1.symm
      . obtain ⟨_, y2, _, y4, y5⟩ := hu.jD (i := i) (by omega) (fun k => by have := hu.lg k; omega) hi
        exact ⟨by rw [Int.toNat_natCast, y4]; exact hu.pd.resolve_left y2, by rw [List.length_drop]; omega⟩
      . obtain ⟨_, y2, _, y4, y5⟩ := hu.jD (i := i) (by omega) (fun k => by have := hu.lg k; omega) hi
        have KT : u.take ((i : Nat) : Int).toNat = w ++ aQ b := y5
        have KP : e9 (u.drop (((i + 1 : Nat) : Int)).toNat) = bZ p := by rw [Int.toNat_natCast, y4]; exact sK y2
        refine aU.mk Nat (fun i => i ≤ w.length ∧ i ≤ (w ++ aQ b).length) (fun i => ⟨59, [(0, .str (w ++ aQ b)), (2, .ptr 0 0), (3, .ptr 1 0), (40, .int .i64 (w ++ aQ b).length), (41, .int .i64 i)], [.cells [.bool false, .str [], .str [], .int .i64 0], .cells [.bool false, .str (w ++ aQ b), .str [], .int .i64 (bZ p)]], []⟩) (fun i => (w ++ aQ b).length - i) [] 0 ⟨Nat.zero_le _, Nat.zero_le _⟩ ?_ (fun i ⟨hi, hi2⟩ _ _ => ?_)
        . refine Go.VG.Sub.mk rfl ?_ ?_ ?_ ?_ <;> (repeat' first | trivial | apply ae | apply cC | apply aI | apply gC | apply bU)
          all_goals first
           | exact KT
           | exact KP
           | exact congrArg _ (congrArg _ KT)
        have hw1 : i < (w ++ aQ b).length → IntKind.i64.wrap ((i : Int) + 1) = ((i + 1 : Nat) : Int) := fun h => by
         have := congrArg List.length KT
         rw [c5]; omega
        repeat' ((conv => whnf); first | apply ak | (apply al <;> intro h) | with_reducible refine c8 ?_ fun hc => ?_)
        all_goals try conv => whnf
        all_goals try (refine a9.mk ?_; try dsimp only)
        all_goals (try rw [hw1 (by omega)])
        all_goals (try simp only [aK, cI, cJ] at *)
        all_goals first | refine stay ?_ | omega | skip
        . obtain ⟨q1, q2⟩ := nG hu.wd hu.bd (i := i) (by omega) (by omega)
          refine a8.mk [] ?_ <;> (repeat' first | trivial | apply ae | apply cC | apply fZ | apply bU)
          all_goals first
           | exact q1
           | exact q2
        . refine ⟨[], i + 1, ⟨nF hu.wd hu.bd (i := i) (by omega) hi (by omega), by omega⟩, ?_, by omega⟩
          refine Go.VG.Sub.mk rfl ?_ ?_ ?_ ?_ <;> (repeat' first | trivial)
        . obtain ⟨q1, q2⟩ := nE hu.wd hu.bd (i := i) (by omega) hi
          refine a8.mk [] ?_ <;> (repeat' first | trivial | apply ae | apply cC | apply fZ | apply bU)
          all_goals first
           | exact q2
           | exact q1.symm
      . refine ⟨[], i + 1, ⟨?_, by omega⟩, ?_, by omega⟩
        . rcases Nat.lt_or_eq_of_le hi with q | q
          . exact q
          . have := hu.jD (i := i) (by omega) (by omega) hi
            omega
        refine Go.VG.Sub.mk rfl ?_ ?_ ?_ ?_ <;> (repeat' first | trivial)
      . obtain ⟨y2, y5⟩ := hu.zp (i := i) (by omega) hi
        have KT : u = w ++ aQ b := y5
        have KP : (0 : Int) = bZ p := by rw [y2]; rfl
        refine aU.mk Nat (fun i => i ≤ w.length ∧ i ≤ (w ++ aQ b).length) (fun i => ⟨59, [(0, .str (w ++ aQ b)), (2, .ptr 0 0), (3, .ptr 1 0), (40, .int .i64 (w ++ aQ b).length), (41, .int .i64 i)], [.cells [.bool false, .str [], .str [], .int .i64 0], .cells [.bool false, .str (w ++ aQ b), .str [], .int .i64 (bZ p)]], []⟩) (fun i => (w ++ aQ b).length - i) [] 0 ⟨Nat.zero_le _, Nat.zero_le _⟩ ?_ (fun i ⟨hi, hi2⟩ _ _ => ?_)
        . refine Go.VG.Sub.mk rfl ?_ ?_ ?_ ?_ <;> (repeat' first | trivial | apply ae | apply cC | apply aI | apply gC | apply bU)
          all_goals first
           | exact KT
           | exact KP
           | exact congrArg _ (congrArg _ KT)
        have hw1 : i < (w ++ aQ b).length → IntKind.i64.wrap ((i : Int) + 1) = ((i + 1 : Nat) : Int) := fun h => by
         have := congrArg List.length KT
         rw [c5]; omega
        repeat' ((conv => whnf); first | apply ak | (apply al <;> intro h) | with_reducible refine c8 ?_ fun hc => ?_)
        all_goals try conv => whnf
        all_goals try (refine a9.mk ?_; try dsimp only)
        all_goals (try rw [hw1 (by omega)])
        all_goals (try simp only [aK, cI, cJ] at *)
        all_goals first | refine stay ?_ | omega | skip
        . obtain ⟨q1, q2⟩ := nG hu.wd hu.bd (i := i) (by omega) (by omega)
          refine a8.mk [] ?_ <;> (repeat' first | trivial | apply ae | apply cC | apply fZ | apply bU)
          all_goals first
           | exact q1
           | exact q2
        . refine ⟨[], i + 1, ⟨nF hu.wd hu.bd (i := i) (by omega) hi (by omega), by omega⟩, ?_, by omega⟩
          refine Go.VG.Sub.mk rfl ?_ ?_ ?_ ?_ <;> (repeat' first | trivial)
        . obtain ⟨q1, q2⟩ := nE hu.wd hu.bd (i := i) (by omega) hi
          refine a8.mk [] ?_ <;> (repeat' first | trivial | apply ae | apply cC | apply fZ | apply bU)
          all_goals first
           | exact q2
           | exact q1.symm
def wV : Sm := fun args σ => match args, σ with
 | [.str s], [] => some (jX s ∧ s.length ≤ 100000000, .agg [.bool (bI s 0 45 45), .str (aO s 0).w, .str (aO s 0).b, .int .i64 (bZ (aO s 0).p)], none)
 | _, _ => none
theorem I4 : aw 78 wV := by
 intro args sg pre x r he hp
 unfold wV at he
 split at he <;> cases he
 . exact FN (hp := hp) ..
end Go.Proofs.YtllncocibkgjkaaGreat
