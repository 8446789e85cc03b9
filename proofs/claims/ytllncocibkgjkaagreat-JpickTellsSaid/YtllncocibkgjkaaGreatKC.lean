/-
  A part of the proof.
-/
import Derived.Test.YtllncocibkgjkaaGreatJNd
set_option linter.unusedSimpArgs false
set_option linter.unusedVariables false
set_option maxHeartbeats 4000000
namespace Go.Proofs.YtllncocibkgjkaaGreat
open Go Go.VG
set_option maxRecDepth 100000
theorem cI : Int.toNat 0 = 0 := rfl
theorem cJ : Int.toNat 1 = 1 := rfl
def bh (s : List UInt8) : Nat := s.foldl (fun n b => 10 * n + (b.toNat - 48)) 0
theorem Mg (s : List UInt8) (b : UInt8) : bh (s ++ [b]) = 10 * bh s + (b.toNat - 48) := by unfold bh; rw [List.foldl_append]; rfl
theorem De (s : List UInt8) : ∀ n, s.foldl (fun n b => 10 * n + (b.toNat - 48)) n = n * 10 ^ s.length + bh s := by
 unfold bh
 induction s with
 | nil => intro n; simp
 | cons b s ih =>
   intro n
   rw [List.foldl_cons, List.foldl_cons, ih, ih (10 * 0 + _), List.length_cons, Nat.pow_succ]
   rw [Nat.add_mul, Nat.mul_zero, Nat.zero_add, Nat.mul_comm 10 n, Nat.mul_assoc, Nat.mul_comm 10, Nat.add_assoc]
theorem pj (b : UInt8) (s : List UInt8) : bh (b :: s) = (b.toNat - 48) * 10 ^ s.length + bh s := by
 show (b :: s).foldl _ 0 = _
 rw [List.foldl_cons, De]; simp
theorem Mf (s t : List UInt8) : bh (s ++ t) = bh s * 10 ^ t.length + bh t := by
 show (s ++ t).foldl _ 0 = _
 rw [List.foldl_append, De]; rfl
def aL (s : List UInt8) : Prop := ∀ b ∈ s, aN b = true
theorem iN {s : List UInt8} (h : aL s) {i : Nat} (hi : i < s.length) : 48 ≤ (s.getD i 0).toNat ∧ (s.getD i 0).toNat ≤ 57 := by
 rw [List.getD_eq_getElem?_getD, List.getElem?_eq_getElem hi]
 exact of_decide_eq_true (h _ (List.getElem_mem hi))
theorem nm : ∀ {s : List UInt8}, aL s → bh s < 10 ^ s.length
 | [], _ => by decide
 | b :: s, h => by
   have h1 := nm (s := s) fun x hx => h x (List.mem_cons_of_mem _ hx)
   have h2 : 48 ≤ b.toNat ∧ b.toNat ≤ 57 := of_decide_eq_true (h b List.mem_cons_self)
   rw [pj, List.length_cons, Nat.pow_succ]
   have : (b.toNat - 48) * 10 ^ s.length ≤ 9 * 10 ^ s.length := Nat.mul_le_mul_right _ (by omega)
   omega
theorem yh (s : List UInt8) (i : Nat) : bh (s.take i) ≤ bh s := by
 have e := Mf (s.take i) (s.drop i)
 rw [List.take_append_drop] at e
 rw [e]
 exact Nat.le_trans (Nat.le_mul_of_pos_right _ (Nat.pow_pos (by decide))) (Nat.le_add_right _ _)
theorem qZ {s : List UInt8} {i : Nat} (hi : i < s.length) : bh (s.take (i + 1)) = 10 * bh (s.take i) + ((s.getD i 0).toNat - 48) := by
 rw [p9 hi, Mg]
def cn (s : List UInt8) : Bool := s.all aN && (decide (s = [48]) || (decide (s ≠ []) && decide ((s.getD 0 0).toNat ≠ 48)))
theorem mP {s : List UInt8} (h : cn s = true) : aL s := by
 unfold cn at h
 rw [Bool.and_eq_true, List.all_eq_true] at h
 exact h.1
theorem uL {s : List UInt8} (h : s = [] ∨ ((s.getD 0 0).toNat = 48 ∧ s.length > 1)) : cn s = false := by
 unfold cn
 rcases h with rfl | ⟨h1, h2⟩
 . decide
 . rw [decide_eq_false (fun e => by rw [e] at h2; simp at h2), decide_eq_false (p := _ ≠ 48) (by omega)]; simp
theorem oc {s : List UInt8} {i : Nat} (hi : i < s.length) (h : (s.getD i 0).toNat < 48 ∨ (s.getD i 0).toNat > 57) : cn s = false := by
 cases e : cn s with
 | false => rfl
 | true => have := iN (mP e) hi; omega
theorem uM {s : List UInt8} (h0 : s ≠ []) (h : (s.getD 0 0).toNat = 48 → ¬ s.length > 1) (hd : aL s) : cn s = true := by
 unfold cn
 rw [Bool.and_eq_true, List.all_eq_true, Bool.or_eq_true, Bool.and_eq_true, decide_eq_true_eq, decide_eq_true_eq, decide_eq_true_eq]
 refine ⟨hd, ?_⟩
 by_cases e : (s.getD 0 0).toNat = 48
 . left
   have := h e
   cases s with
   | nil => exact absurd rfl h0
   | cons b s =>
     have : s = [] := by cases s with
      | nil => rfl
      | cons => simp at this
     subst this
     rw [show b = 48 from UInt8.toNat_inj.1 e]
 . exact .inr ⟨h0, e⟩
structure Dg (s : List UInt8) (i : Nat) : Prop where
 le : i ≤ s.length
 d : aL (s.take i)
theorem Dg.next {s : List UInt8} {i : Nat} (h : Dg s i) (hi : i < s.length) (h1 : ¬ (s.getD i 0).toNat < 48) (h2 : ¬ (s.getD i 0).toNat > 57) : Dg s (i + 1) :=
 ⟨by omega, by
  rw [p9 hi]
  intro b hb
  rcases List.mem_append.1 hb with hb | hb
  . exact h.d b hb
  . rw [List.mem_singleton.1 hb]; unfold aN; rw [decide_eq_true_eq]; omega⟩
theorem Dg.all {s : List UInt8} {i : Nat} (h : Dg s i) (hi : ¬ i < s.length) : aL s := by
 have := h.d; rwa [List.take_of_length_le (by omega)] at this
theorem Dg.zero (s : List UInt8) : Dg s 0 := ⟨Nat.zero_le _, fun _ h => by cases h⟩
theorem w8 {b : Nat} (h : 48 ≤ b ∧ b ≤ 57) : IntKind.u8.wrap ((b : Int) - 48) = ((b - 48 : Nat) : Int) := by rw [kW]; omega
theorem wI {n : Int} (h : 0 ≤ n) (k : n ≤ 9223372036854775807) : IntKind.i64.wrap n = n := by rw [c5]; omega
theorem wU {n : Int} (h : 0 ≤ n) (k : n ≤ 18446744073709551615) : IntKind.u64.wrap n = n := by rw [yk]; omega
theorem Ff (s : List UInt8) (hp : s.length ≤ 100000000) : OK 111 ([.str s]) ([]) (.bool (cn s)) (none) := by
 refine au (C := cx []) (aq trivial) (fn := Tryz.f111) rfl rfl rfl rfl fun hw hs => ?_
 have hne : s ≠ [] → 0 < s.length := fun h => by cases s; exact absurd rfl h; simp
 repeat' ((conv => whnf); first | apply ak | ((first | apply al | apply ga) <;> intro h) | with_reducible refine eH ?_ fun hc => ?_)
 all_goals try conv => whnf
 all_goals try (refine a9.mk ?_; try dsimp only)
 all_goals (try simp only [cI, cJ] at *)
 all_goals first | refine stay ?_ | trivial | skip
 . rw [uL (.inl ‹_›)]
   refine a8.mk [] ?_ <;> (repeat' first | trivial)
 . exact hne ‹_›
 . rw [uL (.inr ⟨by omega, by omega⟩)]
   refine a8.mk [] ?_ <;> (repeat' first | trivial)
 . refine aU.mk Nat (Dg s) (fun i => ⟨32, [(0, .str s), (17, .int .i64 s.length), (18, .int .i64 i)], [], []⟩) (fun i => s.length - i) [] 0 (.zero s) ?_ (fun i hI _ _ => ?_)
   . refine Go.VG.Sub.mk rfl ?_ ?_ ?_ ?_ <;> (repeat' first | trivial)
   have hle := hI.le
   have hb : (s.getD i 0).toNat < 256 := UInt8.toNat_lt _
   repeat' ((conv => whnf); first | apply ak | (apply al <;> intro h) | with_reducible refine c8 ?_ fun hc => ?_)
   all_goals try conv => whnf
   all_goals try (refine a9.mk ?_; try dsimp only)
   all_goals (try simp only [cI, cJ] at *)
   all_goals first | refine stay ?_ | omega | skip
   . rw [oc (i := i) (by omega) (by omega)]
     refine a8.mk [] ?_ <;> (repeat' first | trivial)
   . rw [oc (i := i) (by omega) (by omega)]
     refine a8.mk [] ?_ <;> (repeat' first | trivial)
   . refine ⟨[], i + 1, hI.next (by omega) (by omega) (by omega), ?_, by omega⟩
     refine Go.VG.Sub.mk rfl ?_ ?_ ?_ ?_ <;> (repeat' first | trivial | apply ae | apply aI)
     all_goals (simp (discharger := omega) only [wR]; omega)
   . rw [uM ‹s ≠ _› (by omega) (hI.all (by omega))]
     refine a8.mk [] ?_ <;> (repeat' first | trivial)
 . refine aU.mk Nat (Dg s) (fun i => ⟨32, [(0, .str s), (17, .int .i64 s.length), (18, .int .i64 i)], [], []⟩) (fun i => s.length - i) [] 0 (.zero s) ?_ (fun i hI _ _ => ?_)
   . refine Go.VG.Sub.mk rfl ?_ ?_ ?_ ?_ <;> (repeat' first | trivial)
   have hle := hI.le
   have hb : (s.getD i 0).toNat < 256 := UInt8.toNat_lt _
   repeat' ((conv => whnf); first | apply ak | (apply al <;> intro h) | with_reducible refine c8 ?_ fun hc => ?_)
   all_goals try conv => whnf
   all_goals try (refine a9.mk ?_; try dsimp only)
   all_goals (try simp only [cI, cJ] at *)
   all_goals first | refine stay ?_ | omega | skip
   . rw [oc (i := i) (by omega) (by omega)]
     refine a8.mk [] ?_ <;> (repeat' first | trivial)
   . rw [oc (i := i) (by omega) (by omega)]
     refine a8.mk [] ?_ <;> (repeat' first | trivial)
   . refine ⟨[], i + 1, hI.next (by omega) (by omega) (by omega), ?_, by omega⟩
     refine Go.VG.Sub.mk rfl ?_ ?_ ?_ ?_ <;> (repeat' first | trivial | apply ae | apply aI)
     all_goals (simp (discharger := omega) only [wR]; omega)
   . rw [uM ‹s ≠ _› (by omega) (hI.all (by omega))]
     refine a8.mk [] ?_ <;> (repeat' first | trivial)
def wD : Sm := fun args σ => match args, σ with
 | [.str s], [] => some (s.length ≤ 100000000, .bool (cn s), none)
 | _, _ => none
theorem HP : aw 111 wD := by
 intro args sg pre x r he hp
 unfold wD at he
 split at he <;> cases he
 . exact Ff (hp := hp) ..
theorem Gf (s : List UInt8) (hp : s.length ≤ 100000000) : OK 116 ([.str s]) ([]) (.bool (cn s)) (none) := by
 refine au (C := cx []) (aq trivial) (fn := Tryz.f116) rfl rfl rfl rfl fun hw hs => ?_
 have hne : s ≠ [] → 0 < s.length := fun h => by cases s; exact absurd rfl h; simp
 all_goals try conv => whnf
 all_goals try (refine a9.mk ?_; try dsimp only)
 all_goals try refine stay ?_
 refine aU.mk Nat (Dg s) (fun i => ⟨31, [(0, .str s), (3, .int .i64 i)], [], []⟩) (fun i => s.length - i) [] 0 (.zero s) ?_ (fun i hI _ _ => ?_)
 . refine Go.VG.Sub.mk rfl ?_ ?_ ?_ ?_ <;> (repeat' first | trivial)
 have hle := hI.le
 have hb : (s.getD i 0).toNat < 256 := UInt8.toNat_lt _
 repeat' ((conv => whnf); first | apply ak | apply aW | ((first | apply al | apply ga) <;> intro h) | with_reducible (first | refine c8 ?_ fun hc => ?_ | refine eH ?_ fun hc => ?_))
 all_goals try conv => whnf
 all_goals try (refine a9.mk ?_; try dsimp only)
 all_goals (try simp only [cI, cJ] at *)
 all_goals first | refine stay ?_ | trivial | omega | skip
 . rw [oc (i := i) (by omega) (by omega)]
   refine a8.mk [] ?_ <;> (repeat' first | trivial)
 . rw [oc (i := i) (by omega) (by omega)]
   refine a8.mk [] ?_ <;> (repeat' first | trivial)
 . refine ⟨[], i + 1, hI.next (by omega) (by omega) (by omega), ?_, by omega⟩
   refine Go.VG.Sub.mk rfl ?_ ?_ ?_ ?_ <;> (repeat' first | trivial | apply ae | apply aI)
   all_goals (simp (discharger := omega) only [wR]; omega)
 . have e := ‹s = [48]›
   subst e
   refine a8.mk [] ?_ <;> (repeat' first | trivial)
 . rw [uL (.inl ‹_›)]
   refine a8.mk [] ?_ <;> (repeat' first | trivial)
 . exact hne ‹_›
 . have hd := hI.all (by omega)
   have e : cn s = (((s.getD 0 0).toNat : Int) != 48) := by
    unfold cn
    rw [List.all_eq_true.2 hd, decide_eq_false ‹s ≠ [48]›, decide_eq_true ‹s ≠ _›, Bool.eq_iff_iff, bne_iff_ne]
    simp only [Bool.true_and, Bool.false_or, decide_eq_true_eq]
    omega
   rw [e]
   refine a8.mk [] ?_ <;> (repeat' first | trivial)
def xm : Sm := fun args σ => match args, σ with
 | [.str s], [] => some (s.length ≤ 100000000, .bool (cn s), none)
 | _, _ => none
theorem Iu : aw 116 xm := by
 intro args sg pre x r he hp
 unfold xm at he
 split at he <;> cases he
 . exact Gf (hp := hp) ..
def cM (m : Nat) (s : List UInt8) : Int × Int := if bh s ≤ m then (bh s, 0) else (0, 4)
structure Wt (m : Nat) (s : List UInt8) (i : Nat) : Prop where
 le : i ≤ s.length
 v : bh (s.take i) ≤ m
theorem Dr {m : Nat} {s : List UInt8} {i : Nat} (hi : i < s.length) (h : ¬ 10 * bh (s.take i) + ((s.getD i 0).toNat - 48) ≤ m) : cM m s = (0, 4) := by
 have := yh s (i + 1)
 rw [qZ hi] at this
 unfold cM; rw [if_neg (by omega)]
theorem Dt {m : Nat} {s : List UInt8} {i : Nat} (hI : Wt m s i) (hi : ¬ i < s.length) : cM m s = ((bh (s.take i) : Int), 0) := by
 have h := hI.v
 rw [List.take_of_length_le (by omega)] at h ⊢
 unfold cM; rw [if_pos h]
theorem Wt.next {m : Nat} {s : List UInt8} {i : Nat} (hi : i < s.length) (h : 10 * bh (s.take i) + ((s.getD i 0).toNat - 48) ≤ m) : Wt m s (i + 1) := ⟨by omega, by rw [qZ hi]; exact h⟩
theorem Fh (s : List UInt8) (m : Int) (hp : aL s ∧ 9 ≤ m ∧ m ≤ 9223372036854775807 ∧ s.length ≤ 100000000) : OK 112 ([.str s, .int .i64 m]) ([]) (.tuple [.int .i64 (cM m.toNat s).1, .int .i64 (cM m.toNat s).2]) (none) := by
 refine au (C := cx []) (aq trivial) (fn := Tryz.f112) rfl rfl rfl rfl fun hw hs => ?_
 obtain ⟨hd, h9, hm, hl⟩ := hp
 obtain ⟨m, rfl⟩ := Int.eq_ofNat_of_zero_le (show 0 ≤ m by omega)
 rw [Int.toNat_natCast]
 all_goals try conv => whnf
 all_goals try (refine a9.mk ?_; try dsimp only)
 refine aU.mk Nat (Wt m s) (fun i => ⟨31, [(0, .str s), (1, .int .i64 m), (6, .int .i64 (bh (s.take i))), (10, .int .i64 s.length), (11, .int .i64 i)], [], []⟩) (fun i => s.length - i) [] 0 ⟨Nat.zero_le _, Nat.zero_le _⟩ ?_ (fun i hI _ _ => ?_)
 . refine Go.VG.Sub.mk rfl ?_ ?_ ?_ ?_ <;> (repeat' first | trivial)
 have hle := hI.le
 have hv := hI.v
 have hb := fun h => iN hd (i := i) h
 repeat' ((conv => whnf); first | apply ak | (apply al <;> intro h) | with_reducible refine c8 ?_ fun hc => ?_)
 all_goals try conv => whnf
 all_goals try (refine a9.mk ?_; try dsimp only)
 all_goals (try have hb := hb (by omega))
 all_goals (try have e1 := w8 hb)
 all_goals (try have e2 : IntKind.i64.wrap (((s.getD i 0).toNat - 48 : Nat) : Int) = (((s.getD i 0).toNat - 48 : Nat) : Int) := wI (by omega) (by omega))
 all_goals (try have e3 : IntKind.i64.wrap ((m : Int) - (((s.getD i 0).toNat - 48 : Nat) : Int)) = (m : Int) - (((s.getD i 0).toNat - 48 : Nat) : Int) := wI (by omega) (by omega))
 all_goals (try have e4 : ((m : Int) - (((s.getD i 0).toNat - 48 : Nat) : Int)).tdiv 10 = ((m : Int) - (((s.getD i 0).toNat - 48 : Nat) : Int)) / 10 := Int.tdiv_eq_ediv_of_nonneg (by omega))
 all_goals (try have e5 : IntKind.i64.wrap (((m : Int) - (((s.getD i 0).toNat - 48 : Nat) : Int)) / 10) = ((m : Int) - (((s.getD i 0).toNat - 48 : Nat) : Int)) / 10 := wI (by omega) (by omega))
 all_goals (try simp only [e1, e2, e3, e4, e5] at *)
 all_goals (try simp only [cI, cJ] at *)
 all_goals first | refine stay ?_ | trivial | omega | skip
 . rw [Dr (i := i) (by omega) (by omega)]
   refine a8.mk [] ?_ <;> (repeat' first | trivial)
 . refine ⟨[], i + 1, .next (by omega) (by omega), ?_, by omega⟩
   refine Go.VG.Sub.mk rfl ?_ ?_ ?_ ?_ <;> (repeat' first | trivial | apply ae | apply aI)
   all_goals first
    | (rw [qZ (by omega), wI (n := (bh (s.take i) : Int) * 10) (by omega) (by omega), wI (by omega) (by omega)]; omega)
    | (simp (discharger := omega) only [wR]; omega)
 . rw [Dt hI (by omega)]
   refine a8.mk [] ?_ <;> (repeat' first | trivial)
def wF : Sm := fun args σ => match args, σ with
 | [.str s, .int .i64 m], [] => some (aL s ∧ 9 ≤ m ∧ m ≤ 9223372036854775807 ∧ s.length ≤ 100000000, .tuple [.int .i64 (cM m.toNat s).1, .int .i64 (cM m.toNat s).2], none)
 | _, _ => none
theorem HR : aw 112 wF := by
 intro args sg pre x r he hp
 unfold wF at he
 split at he <;> cases he
 . exact Fh (hp := hp) ..
theorem Fi (s : List UInt8) (m : Int) (hp : aL s ∧ 9 ≤ m ∧ m ≤ 9223372036854775808 ∧ s.length ≤ 100000000) : OK 113 ([.str s, .int .u64 m]) ([]) (.tuple [.int .u64 (cM m.toNat s).1, .int .i64 (cM m.toNat s).2]) (none) := by
 refine au (C := cx []) (aq trivial) (fn := Tryz.f113) rfl rfl rfl rfl fun hw hs => ?_
 obtain ⟨hd, h9, hm, hl⟩ := hp
 obtain ⟨m, rfl⟩ := Int.eq_ofNat_of_zero_le (show 0 ≤ m by omega)
 rw [Int.toNat_natCast]
 all_goals try conv => whnf
 all_goals try (refine a9.mk ?_; try dsimp only)
 refine aU.mk Nat (Wt m s) (fun i => ⟨31, [(0, .str s), (1, .int .u64 m), (6, .int .u64 (bh (s.take i))), (10, .int .i64 s.length), (11, .int .i64 i)], [], []⟩) (fun i => s.length - i) [] 0 ⟨Nat.zero_le _, Nat.zero_le _⟩ ?_ (fun i hI _ _ => ?_)
 . refine Go.VG.Sub.mk rfl ?_ ?_ ?_ ?_ <;> (repeat' first | trivial)
 have hle := hI.le
 have hv := hI.v
 have hb := fun h => iN hd (i := i) h
 repeat' ((conv => whnf); first | apply ak | (apply al <;> intro h) | with_reducible refine c8 ?_ fun hc => ?_)
 all_goals try conv => whnf
 all_goals try (refine a9.mk ?_; try dsimp only)
 all_goals (try have hb := hb (by omega))
 all_goals (try have e1 := w8 hb)
 all_goals (try have e2 : IntKind.u64.wrap (((s.getD i 0).toNat - 48 : Nat) : Int) = (((s.getD i 0).toNat - 48 : Nat) : Int) := wU (by omega) (by omega))
 all_goals (try have e3 : IntKind.u64.wrap ((m : Int) - (((s.getD i 0).toNat - 48 : Nat) : Int)) = (m : Int) - (((s.getD i 0).toNat - 48 : Nat) : Int) := wU (by omega) (by omega))
 all_goals (try have e4 : ((m : Int) - (((s.getD i 0).toNat - 48 : Nat) : Int)).tdiv 10 = ((m : Int) - (((s.getD i 0).toNat - 48 : Nat) : Int)) / 10 := Int.tdiv_eq_ediv_of_nonneg (by omega))
 all_goals (try have e5 : IntKind.u64.wrap (((m : Int) - (((s.getD i 0).toNat - 48 : Nat) : Int)) / 10) = ((m : Int) - (((s.getD i 0).toNat - 48 : Nat) : Int)) / 10 := wU (by omega) (by omega))
 all_goals (try simp only [e1, e2, e3, e4, e5] at *)
 all_goals (try simp only [cI, cJ] at *)
 all_goals first | refine stay ?_ | trivial | omega | skip
 . rw [Dr (i := i) (by omega) (by omega)]
   refine a8.mk [] ?_ <;> (repeat' first | trivial)
 . refine ⟨[], i + 1, .next (by omega) (by omega), ?_, by omega⟩
   refine Go.VG.Sub.mk rfl ?_ ?_ ?_ ?_ <;> (repeat' first | trivial | apply ae | apply aI)
   all_goals first
    | (rw [qZ (by omega), wU (n := (bh (s.take i) : Int) * 10) (by omega) (by omega), wU (by omega) (by omega)]; omega)
    | (simp (discharger := omega) only [wR]; omega)
 . rw [Dt hI (by omega)]
   refine a8.mk [] ?_ <;> (repeat' first | trivial)
def wG : Sm := fun args σ => match args, σ with
 | [.str s, .int .u64 m], [] => some (aL s ∧ 9 ≤ m ∧ m ≤ 9223372036854775808 ∧ s.length ≤ 100000000, .tuple [.int .u64 (cM m.toNat s).1, .int .i64 (cM m.toNat s).2], none)
 | _, _ => none
theorem HS : aw 113 wG := by
 intro args sg pre x r he hp
 unfold wG at he
 split at he <;> cases he
 . exact Fi (hp := hp) ..
def c9 (s : List UInt8) : Int × Int :=
 if s = [] ∨ (s.getD 0 0).toNat ≠ 45 then (if cn s = true then cM 9223372036854775807 s else (0, 3))
 else if cn (s.drop 1) = true ∧ s.drop 1 ≠ [48] then (-(cM 9223372036854775808 (s.drop 1)).1, (cM 9223372036854775808 (s.drop 1)).2) else (0, 3)
theorem Du (m : Nat) (s : List UInt8) : 0 ≤ (cM m s).1 ∧ (cM m s).1 ≤ m := by unfold cM; split <;> constructor <;> (try dsimp only) <;> omega
theorem BC {u : Int} (h : 0 ≤ u) (k : u ≤ (9223372036854775808 : Nat)) : IntKind.i64.wrap (IntKind.u64.wrap (-u)) = -u := by
 have e : IntKind.u64.wrap (-u) = if u = 0 then 0 else 18446744073709551616 - u := by rw [yk]; split <;> omega
 rw [e, c5]
 split <;> omega
theorem Fg (s : List UInt8) (hp : s.length ≤ 100000000) : OK 80 ([.str s]) ([]) (.tuple [.int .i64 (c9 s).1, .int .i64 (c9 s).2]) (none) := by
 refine au (C := cx [(111, wD), (112, wF), (113, wG)]) (aq ⟨HP, HR, HS, trivial⟩) (fn := Tryz.f80) rfl rfl rfl rfl fun hw hs => ?_
 have hne : s ≠ [] → 0 < s.length := fun h => by cases s; exact absurd rfl h; simp
 have hdl : (s.drop 1).length = s.length - 1 := List.length_drop
 have hR1 : s = [] ∨ (s.getD 0 0).toNat ≠ 45 → cn s = true → c9 s = cM 9223372036854775807 s := fun h k => by unfold c9; rw [if_pos h, if_pos k]
 have hR2 : s = [] ∨ (s.getD 0 0).toNat ≠ 45 → cn s = false → c9 s = (0, 3) := fun h k => by unfold c9; rw [if_pos h, if_neg (by rw [k]; decide)]
 have hR3 : s ≠ [] → (s.getD 0 0).toNat = 45 → cn (s.drop 1) = true → s.drop 1 ≠ [48] → c9 s = (-(cM 9223372036854775808 (s.drop 1)).1, (cM 9223372036854775808 (s.drop 1)).2) := fun h h2 k k2 => by
  unfold c9; rw [if_neg (fun q => q.elim h fun q => q h2), if_pos ⟨k, k2⟩]
 have hR4 : s ≠ [] → (s.getD 0 0).toNat = 45 → (cn (s.drop 1) = false ∨ s.drop 1 = [48]) → c9 s = (0, 3) := fun h h2 k => by
  unfold c9; rw [if_neg (fun q => q.elim h fun q => q h2), if_neg (fun q => by rcases k with k | k; rw [k] at q; cases q.1; exact q.2 k)]
 have hng := BC (Du 9223372036854775808 (s.drop 1)).1 (Du 9223372036854775808 (s.drop 1)).2
 repeat' ((conv => whnf); first | apply ak | apply aW | ((first | apply al | apply ga | apply jN) <;> intro h) | with_reducible refine eH ?_ fun hc => ?_)
 all_goals try conv => whnf
 all_goals try (refine a9.mk ?_; try dsimp only)
 all_goals (try simp only [cI, cJ] at *)
 all_goals first | refine stay ?_ | trivial | omega | skip
 all_goals first
  | exact hne ‹_›
  | (have := hne ‹s ≠ _›; exact ⟨by omega, by omega⟩)
  | exact ⟨mP ‹_›, by omega, by omega, by omega⟩
  | (first | rw [hR1 (.inl ‹_›) ‹_›] | rw [hR1 (.inr (by omega)) ‹_›] | rw [hR2 (.inl ‹_›) ‹_›] | rw [hR2 (.inr (by omega)) ‹_›] | rw [hR3 ‹s ≠ _› (by omega) ‹_› ‹_›] | rw [hR4 ‹s ≠ _› (by omega) (.inl ‹_›)] | rw [hR4 ‹s ≠ _› (by omega) (.inr ‹_›)]
     refine a8.mk [] ?_ <;> (repeat' first | trivial | apply ae | apply aI | apply hP | apply bU)
     all_goals (show IntKind.i64.wrap (IntKind.u64.wrap (0 - _)) = _; rw [Int.zero_sub]; exact hng))
def wE : Sm := fun args σ => match args, σ with
 | [.str s], [] => some (s.length ≤ 100000000, .tuple [.int .i64 (c9 s).1, .int .i64 (c9 s).2], none)
 | _, _ => none
theorem HQ : aw 80 wE := by
 intro args sg pre x r he hp
 unfold wE at he
 split at he <;> cases he
 . exact Fg (hp := hp) ..
theorem Gj (s : List UInt8) (hp : aL s ∧ bh s ≤ 18446744073709551615 ∧ s.length ≤ 100000000) : OK 118 ([.str s]) ([]) (.int .u64 (bh s)) (none) := by
 refine au (C := cx []) (aq trivial) (fn := Tryz.f118) rfl rfl rfl rfl fun hw hs => ?_
 obtain ⟨hd, hv, hl⟩ := hp
 all_goals try conv => whnf
 all_goals try (refine a9.mk ?_; try dsimp only)
 refine aU.mk Nat (fun i => i ≤ s.length) (fun i => ⟨20, [(0, .str s), (3, .int .u64 (bh (s.take i))), (4, .int .i64 i)], [], []⟩) (fun i => s.length - i) [] 0 (Nat.zero_le _) ?_ (fun i hle _ _ => ?_)
 . refine Go.VG.Sub.mk rfl ?_ ?_ ?_ ?_ <;> (repeat' first | trivial)
 have ht := yh s i
 have hb := fun h => iN hd (i := i) h
 have hn := fun h => qZ (s := s) (i := i) h
 have ht2 := yh s (i + 1)
 repeat' ((conv => whnf); first | apply ak | (apply al <;> intro h) | with_reducible refine c8 ?_ fun hc => ?_)
 all_goals try conv => whnf
 all_goals try (refine a9.mk ?_; try dsimp only)
 all_goals (try simp only [cI, cJ] at *)
 all_goals first | refine stay ?_ | omega | skip
 . refine ⟨[], i + 1, by omega, ?_, by omega⟩
   have hb := hb (by omega)
   have hn := hn (by omega)
   refine Go.VG.Sub.mk rfl ?_ ?_ ?_ ?_ <;> (repeat' first | trivial | apply ae | apply aI)
   all_goals first
    | (rw [w8 hb, wU (n := (((s.getD i 0).toNat - 48 : Nat) : Int)) (by omega) (by omega), wU (n := 10 * (bh (s.take i) : Int)) (by omega) (by omega), wU (by omega) (by omega)]; omega)
    | (simp (discharger := omega) only [wR]; omega)
 . rw [List.take_of_length_le (by omega)]
   refine a8.mk [] ?_ <;> (repeat' first | trivial)
def xp : Sm := fun args σ => match args, σ with
 | [.str s], [] => some (aL s ∧ bh s ≤ 18446744073709551615 ∧ s.length ≤ 100000000, .int .u64 (bh s), none)
 | _, _ => none
theorem Ix : aw 118 xp := by
 intro args sg pre x r he hp
 unfold xp at he
 split at he <;> cases he
 . exact Gj (hp := hp) ..
def abv (s t : List UInt8) : Bool := decide (bh t < bh s)
theorem Bc : ∀ {s t : List UInt8}, aL s → aL t → s.length = t.length → Op.bytesLess s t = decide (bh s < bh t)
 | [], [], _, _, _ => by decide
 | [], _ :: _, _, _, h => by simp at h
 | _ :: _, [], _, _, h => by simp at h
 | a :: s, b :: t, hs, ht, h => by
   have hl : s.length = t.length := by simpa using h
   have h1 := Bc (s := s) (t := t) (fun x hx => hs x (List.mem_cons_of_mem _ hx)) (fun x hx => ht x (List.mem_cons_of_mem _ hx)) hl
   have s1 := nm (s := s) (fun x hx => hs x (List.mem_cons_of_mem _ hx))
   have t1 := nm (s := t) (fun x hx => ht x (List.mem_cons_of_mem _ hx))
   have ha : 48 ≤ a.toNat ∧ a.toNat ≤ 57 := of_decide_eq_true (hs a List.mem_cons_self)
   have hb : 48 ≤ b.toNat ∧ b.toNat ≤ 57 := of_decide_eq_true (ht b List.mem_cons_self)
   rw [Op.bytesLess, h1, pj, pj, hl]
   rw [hl] at s1
   generalize 10 ^ t.length = P at *
   rw [Bool.eq_iff_iff]
   simp only [Bool.or_eq_true, Bool.and_eq_true, decide_eq_true_eq, beq_iff_eq]
   rcases Nat.lt_trichotomy a.toNat b.toNat with q | q | q
   . have m : (a.toNat - 48 + 1) * P ≤ (b.toNat - 48) * P := Nat.mul_le_mul_right _ (by omega)
     rw [Nat.add_mul] at m
     exact ⟨fun _ => by omega, fun _ => .inl (UInt8.lt_iff_toNat_lt.2 q)⟩
   . have e : a = b := UInt8.toNat_inj.1 q
     subst e
     refine ⟨fun k => ?_, fun k => .inr ⟨rfl, by omega⟩⟩
     rcases k with k | k
     . exact absurd (UInt8.lt_iff_toNat_lt.1 k) (by omega)
     . omega
   . have m : (b.toNat - 48 + 1) * P ≤ (a.toNat - 48) * P := Nat.mul_le_mul_right _ (by omega)
     rw [Nat.add_mul] at m
     refine ⟨fun k => ?_, fun k => by omega⟩
     rcases k with k | k
     . exact absurd (UInt8.lt_iff_toNat_lt.1 k) (by omega)
     . exact absurd (congrArg UInt8.toNat k.1) (by omega)
theorem val_inj : ∀ {s t : List UInt8}, aL s → aL t → s.length = t.length → bh s = bh t → s = t
 | [], [], _, _, _, _ => rfl
 | [], _ :: _, _, _, h, _ => by simp at h
 | _ :: _, [], _, _, h, _ => by simp at h
 | a :: s, b :: t, hs, ht, h, k => by
   have hl : s.length = t.length := by simpa using h
   have s1 := nm (s := s) (fun x hx => hs x (List.mem_cons_of_mem _ hx))
   have t1 := nm (s := t) (fun x hx => ht x (List.mem_cons_of_mem _ hx))
   have ha : 48 ≤ a.toNat ∧ a.toNat ≤ 57 := of_decide_eq_true (hs a List.mem_cons_self)
   have hb : 48 ≤ b.toNat ∧ b.toNat ≤ 57 := of_decide_eq_true (ht b List.mem_cons_self)
   rw [pj, pj, hl] at k
   rw [hl] at s1
   have e : a.toNat = b.toNat := by
    generalize 10 ^ t.length = P at *
    rcases Nat.lt_trichotomy a.toNat b.toNat with q | q | q
    . have m : (a.toNat - 48 + 1) * P ≤ (b.toNat - 48) * P := Nat.mul_le_mul_right _ (by omega)
      rw [Nat.add_mul] at m; omega
    . exact q
    . have m : (b.toNat - 48 + 1) * P ≤ (a.toNat - 48) * P := Nat.mul_le_mul_right _ (by omega)
      rw [Nat.add_mul] at m; omega
   rw [e] at k
   rw [UInt8.toNat_inj.1 e, val_inj (fun x hx => hs x (List.mem_cons_of_mem _ hx)) (fun x hx => ht x (List.mem_cons_of_mem _ hx)) hl (by omega)]
theorem uK {s : List UInt8} {n : Nat} (h : cn s = true) (hn : n + 1 < s.length) : 10 ^ (n + 1) ≤ bh s := by
 have hd := mP h
 unfold cn at h
 rw [Bool.and_eq_true, Bool.or_eq_true, Bool.and_eq_true, decide_eq_true_eq, decide_eq_true_eq, decide_eq_true_eq] at h
 cases s with
 | nil => simp at hn
 | cons b s =>
   have h48 : 48 ≤ b.toNat ∧ b.toNat ≤ 57 := of_decide_eq_true (hd b List.mem_cons_self)
   have hb : b.toNat ≠ 48 := by
    rcases h.2 with k | k
    . rw [k] at hn; simp at hn
    . exact k.2
   rw [pj]
   rw [List.length_cons] at hn
   have m1 : 10 ^ (n + 1) ≤ 10 ^ s.length := Nat.pow_le_pow_right (by decide) (by omega)
   have m2 : 1 * 10 ^ s.length ≤ (b.toNat - 48) * 10 ^ s.length := Nat.mul_le_mul_right _ (by omega)
   omega
theorem DD {s t : List UInt8} (hs : cn s = true) (ht : cn t = true) : abv s t = (decide (s.length > t.length) || (decide (s.length = t.length) && !(Op.bytesLess s t || s == t))) := by
 have ds := mP hs
 have dt := mP ht
 have ls := nm ds
 have lt := nm dt
 have ps : 0 < s.length := by cases s with
  | nil => cases hs
  | cons => simp
 have pt : 0 < t.length := by cases t with
  | nil => cases ht
  | cons => simp
 unfold abv
 rcases Nat.lt_trichotomy s.length t.length with q | q | q
 . have b : 10 ^ s.length ≤ bh t := by
     obtain ⟨n, e⟩ : ∃ n, s.length = n + 1 := ⟨s.length - 1, by omega⟩
     rw [e]; exact uK ht (by omega)
   rw [decide_eq_false (p := bh t < bh s) (by omega), decide_eq_false (p := s.length > t.length) (by omega), decide_eq_false (p := s.length = t.length) (by omega)]; rfl
 . rw [decide_eq_false (p := s.length > t.length) (by omega), decide_eq_true q, Bc ds dt q, Bool.false_or, Bool.true_and, Bool.eq_iff_iff]
   simp only [decide_eq_true_eq, Bool.not_eq_true', Bool.or_eq_false_iff, decide_eq_false_iff_not, beq_eq_false_iff_ne]
   constructor
   . intro k; exact ⟨by omega, fun e => by rw [e] at k; omega⟩
   . rintro ⟨k1, k2⟩
     rcases Nat.lt_trichotomy (bh t) (bh s) with r | r | r
     . exact r
     . exact absurd (val_inj ds dt q r.symm) k2
     . exact absurd r k1
 . have b : 10 ^ t.length ≤ bh s := by
     obtain ⟨n, e⟩ : ∃ n, t.length = n + 1 := ⟨t.length - 1, by omega⟩
     rw [e]; exact uK hs (by omega)
   rw [decide_eq_true (p := bh t < bh s) (by omega), decide_eq_true (p := s.length > t.length) (by omega)]; rfl
theorem Gi (s t : List UInt8) (hp : cn s = true ∧ cn t = true) : OK 117 ([.str s, .str t]) ([]) (.bool (abv s t)) (none) := by
 refine au (C := cx []) (aq trivial) (fn := Tryz.f117) rfl rfl rfl rfl fun hw hs => ?_
 obtain ⟨h1, h2⟩ := hp
 rw [DD h1 h2]
 repeat' ((conv => whnf); (apply al <;> intro h))
 all_goals try conv => whnf
 all_goals try (refine a9.mk ?_; try dsimp only)
 all_goals try refine stay ?_
 . rw [decide_eq_true (p := s.length > t.length) (by omega)]
   refine a8.mk [] ?_ <;> (repeat' first | trivial)
 . rw [decide_eq_false (p := s.length > t.length) (by omega), decide_eq_true (p := s.length = t.length) (by omega)]
   refine a8.mk [] ?_ <;> (repeat' first | trivial)
 . rw [decide_eq_false (p := s.length > t.length) (by omega), decide_eq_false (p := s.length = t.length) (by omega)]
   refine a8.mk [] ?_ <;> (repeat' first | trivial)
def xo : Sm := fun args σ => match args, σ with
 | [.str s, .str t], [] => some (cn s = true ∧ cn t = true, .bool (abv s t), none)
 | _, _ => none
theorem Iw : aw 117 xo := by
 intro args sg pre x r he hp
 unfold xo at he
 split at he <;> cases he
 . exact Gi (hp := hp) ..
theorem m7 : bh [57, 50, 50, 51, 51, 55, 50, 48, 51, 54, 56, 53, 52, 55, 55, 53, 56, 48, 55] = 9223372036854775807 := by decide
theorem m8 : bh [57, 50, 50, 51, 51, 55, 50, 48, 51, 54, 56, 53, 52, 55, 55, 53, 56, 48, 56] = 9223372036854775808 := by decide
theorem Gg (s : List UInt8) (hp : s.length ≤ 100000000) : OK 84 ([.str s]) ([]) (.tuple [.int .i64 (c9 s).1, .int .i64 (c9 s).2]) (none) := by
 refine au (C := cx [(116, xm), (117, xo), (118, xp)]) (aq ⟨Iu, Iw, Ix, trivial⟩) (fn := Tryz.f84) rfl rfl rfl rfl fun hw hs => ?_
 have hne : s ≠ [] → 0 < s.length := fun h => by cases s; exact absurd rfl h; simp
 have hdl : (s.drop 1).length = s.length - 1 := List.length_drop
 have hR1 : s = [] ∨ (s.getD 0 0).toNat ≠ 45 → cn s = true → 9223372036854775807 < bh s → c9 s = (0, 4) := fun h k v => by unfold c9 cM; rw [if_pos h, if_pos k, if_neg (by omega)]
 have hR2 : s = [] ∨ (s.getD 0 0).toNat ≠ 45 → cn s = true → ¬ 9223372036854775807 < bh s → c9 s = ((bh s : Int), 0) := fun h k v => by unfold c9 cM; rw [if_pos h, if_pos k, if_pos (by omega)]
 have hR3 : s = [] ∨ (s.getD 0 0).toNat ≠ 45 → cn s = false → c9 s = (0, 3) := fun h k => by unfold c9; rw [if_pos h, if_neg (by rw [k]; decide)]
 have e48 : s ≠ [] → (s.getD 0 0).toNat = 45 → s.drop 1 = [48] → s = [45, 48] := fun h h2 h3 => by
  cases s with
  | nil => exact absurd rfl h
  | cons b s => rw [show b = 45 from UInt8.toNat_inj.1 h2, show s = [48] from h3]
 have hR4 : s ≠ [] → (s.getD 0 0).toNat = 45 → cn (s.drop 1) = true → s ≠ [45, 48] → 9223372036854775808 < bh (s.drop 1) → c9 s = (0, 4) := fun h h2 k k2 v => by
  unfold c9 cM; rw [if_neg (fun q => q.elim h fun q => q h2), if_pos ⟨k, fun q => k2 (e48 h h2 q)⟩, if_neg (by omega)]; rfl
 have hR5 : s ≠ [] → (s.getD 0 0).toNat = 45 → cn (s.drop 1) = true → s ≠ [45, 48] → ¬ 9223372036854775808 < bh (s.drop 1) → c9 s = (-(bh (s.drop 1) : Int), 0) := fun h h2 k k2 v => by
  unfold c9 cM; rw [if_neg (fun q => q.elim h fun q => q h2), if_pos ⟨k, fun q => k2 (e48 h h2 q)⟩, if_pos (by omega)]
 have hR6 : s ≠ [] → (s.getD 0 0).toNat = 45 → (cn (s.drop 1) = false ∨ s = [45, 48]) → c9 s = (0, 3) := fun h h2 k => by
  unfold c9; rw [if_neg (fun q => q.elim h fun q => q h2), if_neg (fun q => by rcases k with k | k; rw [k] at q; cases q.1; rw [k] at q; exact q.2 rfl)]
 repeat' ((conv => whnf); first | apply ak | apply aW | ((first | apply al | apply ga | apply jN) <;> intro h) | with_reducible refine eH ?_ fun hc => ?_)
 all_goals try conv => whnf
 all_goals try (refine a9.mk ?_; try dsimp only)
 all_goals (try simp only [m7, m8, abv, decide_eq_true_eq, decide_eq_false_iff_not] at *)
 all_goals (try simp only [cI, cJ] at *)
 all_goals first | refine stay ?_ | trivial | omega | skip
 all_goals first
  | exact hne ‹_›
  | (have := hne ‹s ≠ []›; exact ⟨by omega, by omega⟩)
  | exact ⟨mP ‹_›, by omega, by omega⟩
  | (first | rw [hR3 (.inl ‹_›) ‹_›] | rw [hR3 (.inr (by omega)) ‹_›] | rw [hR1 (.inl ‹_›) ‹_› (by omega)] | rw [hR1 (.inr (by omega)) ‹_› (by omega)] | rw [hR2 (.inl ‹_›) ‹_› (by omega)] | rw [hR2 (.inr (by omega)) ‹_› (by omega)] | rw [hR6 ‹s ≠ []› (by omega) (.inl ‹_›)] | rw [hR6 ‹s ≠ []› (by omega) (.inr ‹_›)] | rw [hR4 ‹s ≠ []› (by omega) ‹_› ‹s ≠ [45, 48]› (by omega)] | rw [hR5 ‹s ≠ []› (by omega) ‹_› ‹s ≠ [45, 48]› (by omega)]
     refine a8.mk [] ?_ <;> (repeat' first | trivial | apply ae | apply aI | apply hP | apply bU)
     all_goals first
      | exact wI (by omega) (by omega)
      | (show IntKind.i64.wrap (IntKind.u64.wrap (0 - _)) = _; rw [Int.zero_sub]; exact BC (by omega) (by omega)))
def xn : Sm := fun args σ => match args, σ with
 | [.str s], [] => some (s.length ≤ 100000000, .tuple [.int .i64 (c9 s).1, .int .i64 (c9 s).2], none)
 | _, _ => none
theorem Iv : aw 84 xn := by
 intro args sg pre x r he hp
 unfold xn at he
 split at he <;> cases he
 . exact Gg (hp := hp) ..
end Go.Proofs.YtllncocibkgjkaaGreat
