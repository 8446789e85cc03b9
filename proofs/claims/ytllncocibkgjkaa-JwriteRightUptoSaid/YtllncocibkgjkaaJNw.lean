/-
  A part of the proof.
-/
import Derived.Test.YtllncocibkgjkaaJNd
set_option linter.unusedSimpArgs false
set_option linter.unusedVariables false
set_option maxHeartbeats 4000000
namespace Go.Proofs.Ytllncocibkgjkaa
open Go Go.VG
set_option maxRecDepth 100000
theorem jv {b : UInt8} : bM b = true ↔ 48 ≤ b.toNat ∧ b.toNat ≤ 57 := by simp [bM]
theorem ou {b : UInt8} : bM b = false ↔ ¬ (48 ≤ b.toNat ∧ b.toNat ≤ 57) := by rw [← jv, Bool.not_eq_true]
theorem wW {c : Cu} (h : c.ok) (s : List UInt8) : (c.hZ s).ok ∧ (c.hZ s).s = c.s ∧ (c.hZ s).e = c.e := by
 unfold Cu.hZ; split
 . exact jh h 1
 . exact ⟨h, rfl, rfl⟩
theorem BU (c : Cu) (s : List UInt8) : (c.iZ s).length ≤ 1 := by unfold Cu.iZ; split <;> simp
theorem wS : ∀ (n : Nat) (c : Cu) (o : List UInt8), c.ok → (d7 n c o).1.ok ∧ (d7 n c o).1.s = c.s ∧ (d7 n c o).1.e = c.e ∧ (d7 n c o).2.length ≤ o.length + n + 1
 | 0, c, o, h => by
   have hb := jh h 1
   rw [d7]; exact ⟨hb.1, hb.2.1, hb.2.2, by simp⟩
 | n + 1, c, o, h => by
   have hb := jh h 1
   rw [d7]; split
   . have := wS n c.byte (o ++ [c.aa]) hb.1
     refine ⟨this.1, this.2.1.trans hb.2.1, this.2.2.1.trans hb.2.2, ?_⟩
     have := this.2.2.2; simp at this; omega
   . exact ⟨hb.1, hb.2.1, hb.2.2, by simp⟩
theorem sM {c : Cu} (h : c.ok) : c.bN.1.ok ∧ c.bN.1.s = c.s ∧ c.bN.1.e = c.e ∧ c.bN.2.length ≤ c.e + 1 := by
 unfold Cu.bN; split
 . have := wS (c.e - c.p) c [] h
   refine ⟨this.1, this.2.1, this.2.2.1, ?_⟩
   have := this.2.2.2; simp at this; omega
 . refine ⟨?_, ?_, ?_, by simp⟩
   all_goals
    dsimp only
    split
    . have hf := dV h 3
      have hb := jh hf.1 1
      first | exact hb.1 | exact hb.2.1.trans hf.2.1 | exact hb.2.2.trans hf.2.2.1
    . have hb := jh h 1
      first | exact hb.1 | exact hb.2.1 | exact hb.2.2
theorem D1 (c : Cu) (o : List V) (hp : c.ok ∧ o.length ≤ 2000000000) : OK 113 ([.ptr 0 0]) ([.cells [.ptr 1 0, .buf 2], .cells (eC c), .buf 1 0 o]) (.tuple []) (some [.cells [.ptr 1 0, .buf 2], .cells (eC c.byte), .buf 1 0 (o ++ bl [c.aa])]) := by
 refine az (C := cx [(44, iw)]) (ax ⟨ja, trivial⟩) (fn := Try.f113) rfl rfl rfl rfl fun hw hs => ?_
 obtain ⟨hp, ho⟩ := hp
 repeat' ((conv => whnf); apply al)
 all_goals try conv => whnf
 all_goals try (refine af.mk ?_; try dsimp only)
 all_goals (try simp only [aO] at *)
 all_goals first | refine stay ?_ | trivial | (simp only [cD]; omega) | skip
 all_goals
  refine ah.mk [] ?_ <;> (repeat' first | trivial)
def rB : Sm := fun args σ => match args, σ with
 | [.ptr 0 0], [.cells [.ptr 1 0, .buf 2], .cells ([.str s_c, .int .i64 (.ofNat a_c), .int .i64 (.ofNat e_c), .int .i64 c_c]), .buf 1 0 o] => some (True ∧ ((Cu.mk s_c a_c e_c c_c).ok ∧ o.length ≤ 2000000000), .tuple [], some [.cells [.ptr 1 0, .buf 2], .cells (eC (Cu.mk s_c a_c e_c c_c).byte), .buf 1 0 (o ++ bl [(Cu.mk s_c a_c e_c c_c).aa])])
 | _, _ => none
theorem yg : aI 113 rB := by
 intro args sg pre x r he hp
 unfold rB at he
 split at he <;> cases he
 . rw [bW (hp).1]; exact D1 (hp := hp.2) ..
theorem CW (c : Cu) (o : List V) (hp : c.ok) : OK 114 ([.ptr 0 0]) ([.cells [.ptr 1 0, .buf 2], .cells (eC c), .buf 1 0 o]) (.bool (bM c.aa)) (none) := by
 refine az (C := cx [(43, kW)]) (ax ⟨na, trivial⟩) (fn := Try.f114) rfl rfl rfl rfl fun hw hs => ?_
 have hb : c.aa.toNat < 256 := c.aa.toNat_lt
 have hn : ¬ (c.c = 0 ∧ c.p < c.e) → bM c.aa = false := fun h => by rw [mz h]; decide
 repeat' ((conv => whnf); first | apply al | (apply ay <;> intro h))
 all_goals try conv => whnf
 all_goals try (refine af.mk ?_; try dsimp only)
 all_goals (try simp only [aO] at *)
 all_goals first | refine stay ?_ | trivial | skip
 all_goals
  refine ah.mk [] ?_ <;> (repeat' first | trivial | apply ak | apply eqC)
  first
  | exact (hn (by assumption)).symm
  | (cases h : bM c.aa with
     | true => have := jv.1 h; first | rfl | (simp; omega)
     | false => have := ou.1 h; first | rfl | (simp; omega))
def uI : Sm := fun args σ => match args, σ with
 | [.ptr 0 0], [.cells [.ptr 1 0, .buf 2], .cells ([.str s_c, .int .i64 (.ofNat a_c), .int .i64 (.ofNat e_c), .int .i64 c_c]), .buf 1 0 o] => some (True ∧ ((Cu.mk s_c a_c e_c c_c).ok), .bool (bM (Cu.mk s_c a_c e_c c_c).aa), none)
 | _, _ => none
theorem EK : aI 114 uI := by
 intro args sg pre x r he hp
 unfold uI at he
 split at he <;> cases he
 . rw [bW (hp).1]; exact CW (hp := hp.2) ..
theorem CY (c : Cu) (o : List V) (s : List UInt8) (hp : c.ok ∧ o.length ≤ 2000000000 ∧ s.length ≤ 100) : OK 97 ([.ptr 0 0, .str s]) ([.cells [.ptr 1 0, .buf 2], .cells (eC c), .buf 1 0 o]) (.bool (c.dS s)) (some [.cells [.ptr 1 0, .buf 2], .cells (eC (c.hZ s)), .buf 1 0 (o ++ bl (c.iZ s))]) := by
 refine az (C := cx [(43, kW), (113, rB)]) (ax ⟨na, yg, trivial⟩) (fn := Try.f97) rfl rfl rfl rfl fun hw hs => ?_
 obtain ⟨hp, ho, hs⟩ := hp
 have hb : c.aa.toNat < 256 := c.aa.toNat_lt
 have hbb : byte c.aa.toNat = c.aa := cF _
 repeat' ((conv => whnf); apply al)
 all_goals try conv => whnf
 all_goals try (refine af.mk ?_; try dsimp only)
 all_goals (try simp only [aO] at *)
 all_goals first | refine stay ?_ | trivial | skip
 refine cg.mk Nat (fun i => i ≤ s.length ∧ ∀ j, j < i → ¬ (c.has ∧ s.getD j 0 = c.aa)) (fun i => ⟨32, [(0, .ptr 0 0), (1, .str s), (5, bv c.aa), (6, .bool (decide (c.c = 0 ∧ c.p < c.e))), (17, .int .i64 s.length), (18, .int .i64 i)], [.cells [.ptr 1 0, .buf 2], .cells (eC c), .buf 1 0 o], []⟩) (fun i => s.length - i) [] 0 ⟨by omega, fun j hj => absurd hj (by omega)⟩ ?_ (fun i ⟨hi, hj⟩ _ _ => ?_)
 . refine Go.VG.Sub.mk rfl ?_ ?_ ?_ ?_ <;> (repeat' first | trivial)
 have hx : (s.getD i 0).toNat < 256 := UInt8.toNat_lt _
 have yes : c.has → c.aa = s.getD i 0 → i < s.length → c.dS s = true := fun h e hl => iJ.2 ⟨h, by rw [e, List.getD_eq_getElem?_getD, List.getElem?_eq_getElem hl]; exact List.getElem_mem hl⟩
 have no : i = s.length → c.dS s = false := fun e => by
  cases q : c.dS s with
  | false => rfl
  | true =>
    obtain ⟨q1, q2⟩ := iJ.1 q
    obtain ⟨j, hjl, hje⟩ := List.getElem_of_mem q2
    exact absurd ⟨q1, by rw [List.getD_eq_getElem?_getD, List.getElem?_eq_getElem hjl]; exact hje⟩ (hj j (by omega))
 have next : ¬ (c.has ∧ s.getD i 0 = c.aa) → ∀ j, j < i + 1 → ¬ (c.has ∧ s.getD j 0 = c.aa) := fun h j hjj => by
  by_cases e : j = i
  . subst e; exact h
  . exact hj j (by omega)
 repeat' ((conv => whnf); first | apply al | (apply ay <;> intro h) | with_reducible refine kF ?_ fun hc => ?_)
 all_goals try conv => whnf
 all_goals try (refine af.mk ?_; try dsimp only)
 all_goals (try simp only [aO] at *)
 all_goals first | refine stay ?_ | trivial | omega | skip
 all_goals (try simp only [hbb] at *)
 all_goals first
  | (refine ⟨[], i + 1, ⟨by omega, next fun h => ?_⟩, ?_, by omega⟩
     . first
       | exact absurd h.1 (by assumption)
       | (have := congrArg UInt8.toNat h.2; omega)
     . refine Go.VG.Sub.mk rfl ?_ ?_ ?_ ?_ <;> (repeat' first | trivial | apply ak | apply cw)
       all_goals (simp (discharger := omega) only [wR]; omega))
  | skip
 . have e := yes (by assumption) (UInt8.toNat_inj.1 (by omega)) (by omega)
   unfold Cu.hZ Cu.iZ
   rw [if_pos e, if_pos e, e]
   refine ah.mk [] ?_ <;> (repeat' first | trivial)
 . have e := no (by omega)
   unfold Cu.hZ Cu.iZ
   rw [e]
   refine ah.mk [] ?_ <;> (repeat' first | trivial | apply ak | apply aJ)
   simp [bl]
def uK : Sm := fun args σ => match args, σ with
 | [.ptr 0 0, .str s], [.cells [.ptr 1 0, .buf 2], .cells ([.str s_c, .int .i64 (.ofNat a_c), .int .i64 (.ofNat e_c), .int .i64 c_c]), .buf 1 0 o] => some (True ∧ ((Cu.mk s_c a_c e_c c_c).ok ∧ o.length ≤ 2000000000 ∧ s.length ≤ 100), .bool ((Cu.mk s_c a_c e_c c_c).dS s), some [.cells [.ptr 1 0, .buf 2], .cells (eC ((Cu.mk s_c a_c e_c c_c).hZ s)), .buf 1 0 (o ++ bl ((Cu.mk s_c a_c e_c c_c).iZ s))])
 | _, _ => none
theorem EM : aI 97 uK := by
 intro args sg pre x r he hp
 unfold uK at he
 split at he <;> cases he
 . rw [bW (hp).1]; exact CY (hp := hp.2) ..
theorem CX (c : Cu) (o : List V) (hp : c.ok ∧ o.length ≤ 1500000000 ∧ c.s.length ≤ 100000000) : OK 98 ([.ptr 0 0]) ([.cells [.ptr 1 0, .buf 2], .cells (eC c), .buf 1 0 o]) (.tuple []) (some [.cells [.ptr 1 0, .buf 2], .cells (eC c.bN.1), .buf 1 0 (o ++ bl c.bN.2)]) := by
 refine az (C := cx [(114, uI), (115, uC), (49, iU), (44, iw), (113, rB)]) (ax ⟨EK, EE, jF, ja, yg, trivial⟩) (fn := Try.f98) rfl rfl rfl rfl fun hw hs => ?_
 obtain ⟨hp, ho, hl⟩ := hp
 have h1 := hp.1
 have h2 := hp.2
 have hf := dV hp 3
 repeat' ((conv => whnf); first | apply al | apply bh | (apply ay <;> intro h))
 all_goals try conv => whnf
 all_goals try (refine af.mk ?_; try dsimp only)
 all_goals (try simp only [aO] at *)
 all_goals first | refine stay ?_ | trivial | skip
 . have hd : bM c.aa = true := jv.2 (by assumption)
   have hh : c.has := by
    rcases Decidable.em c.has with q | q
    . exact q
    . rw [mz q] at hd; exact absurd hd (by decide)
   refine l9.mk (Nat × Cu × List UInt8) (fun | (n, d, s) => d.ok ∧ d.s = c.s ∧ d.has ∧ bM d.aa = true ∧ d.e - d.p ≤ n ∧ s.length ≤ d.p ∧ d7 n d s = c.bN)
    (fun | (n, d, s) => ⟨25, [(0, .ptr 0 0)], [.cells [.ptr 1 0, .buf 2], .cells (eC d), .buf 1 0 (o ++ bl s)], [2]⟩) (fun x => x.1) [] (c.e - c.p, c, []) ⟨hp, rfl, hh, hd, Nat.le_refl _, by simp, by unfold Cu.bN; rw [if_pos hd]⟩ ?_ (fun ⟨n, d, s⟩ ⟨hd1, hd2, hd3, hd4, hd5, hd6, hd7⟩ _ _ => ?_)
   . refine Go.VG.Sub.mk rfl ?_ ?_ ?_ ?_ <;> (repeat' first | trivial | apply ak | apply aJ)
     simp [bl]
   have hsl : d.s.length ≤ 100000000 := by rw [hd2]; exact hl
   have e1 := hd1.1
   have e2 := hd1.2
   have e3 : d.c = 0 := hd3.1
   have e4 : d.p < d.e := hd3.2
   have hb1 := jh hd1 1
   have hb : d.byte.ok := hb1.1
   obtain ⟨b1, _⟩ := eh e3 e4
   have hbp : d.byte.p = d.p + 1 := by rw [b1]
   have hbe : d.byte.e = d.e := by rw [b1]
   have hbl := cE s
   obtain ⟨n, rfl⟩ : ∃ m, n = m + 1 := ⟨n - 1, by omega⟩
   rw [d7] at hd7
   repeat' ((conv => whnf); first | apply al | (apply ay <;> intro h))
   all_goals try conv => whnf
   all_goals try (refine af.mk ?_; try dsimp only)
   all_goals (try simp only [aO] at *)
   all_goals first | refine stay ?_ | trivial | skip
   . exact ⟨trivial, hd1, by rw [List.length_append]; omega⟩
   . have q := jv.2 (by assumption)
     rw [if_pos q] at hd7
     have q2 : d.byte.has := by
      rcases Decidable.em d.byte.has with r | r
      . exact r
      . rw [mz r] at q; exact absurd q (by decide)
     refine ⟨[], (n, d.byte, s ++ [d.aa]), ⟨hb, hb1.2.1.trans hd2, q2, q, by rw [hbe, hbp]; omega, by rw [List.length_append, List.length_singleton, hbp]; omega, hd7⟩, ?_, by show n < n + 1; omega⟩
     refine Go.VG.Sub.mk rfl ?_ ?_ ?_ ?_ <;> (repeat' first | trivial | apply ak | apply aJ)
     rw [bz, List.append_assoc]
   . have q := ou.2 (by assumption)
     rw [if_neg (by rw [q]; decide)] at hd7
     rw [← hd7]
     refine ah.mk [] ?_ <;> (repeat' first | trivial | apply ak | apply aJ)
     rw [bz, List.append_assoc]
 . exact ⟨trivial, hf.1⟩
 . have q1 := ou.2 (by assumption)
   unfold Cu.bN
   rw [if_neg (by rw [q1]; decide), if_pos (by assumption)]
   refine ah.mk [] ?_ <;> (repeat' first | trivial | apply ak | apply aJ)
   simp [bl]
 . have q1 := ou.2 (by assumption)
   unfold Cu.bN
   rw [if_neg (by rw [q1]; decide), if_neg (by assumption)]
   refine ah.mk [] ?_ <;> (repeat' first | trivial | apply ak | apply aJ)
   simp [bl]
def uJ : Sm := fun args σ => match args, σ with
 | [.ptr 0 0], [.cells [.ptr 1 0, .buf 2], .cells ([.str s_c, .int .i64 (.ofNat a_c), .int .i64 (.ofNat e_c), .int .i64 c_c]), .buf 1 0 o] => some (True ∧ ((Cu.mk s_c a_c e_c c_c).ok ∧ o.length ≤ 1500000000 ∧ (Cu.mk s_c a_c e_c c_c).s.length ≤ 100000000), .tuple [], some [.cells [.ptr 1 0, .buf 2], .cells (eC (Cu.mk s_c a_c e_c c_c).bN.1), .buf 1 0 (o ++ bl (Cu.mk s_c a_c e_c c_c).bN.2)])
 | _, _ => none
theorem EL : aI 98 uJ := by
 intro args sg pre x r he hp
 unfold uJ at he
 split at he <;> cases he
 . rw [bW (hp).1]; exact CX (hp := hp.2) ..
def Gd (c d : Cu) : Prop := d.ok ∧ d.s = c.s
theorem Gd.self {c : Cu} (h : c.ok) : Gd c c := ⟨h, rfl⟩
theorem Gd.cO {c d : Cu} {s : List UInt8} (h : Gd c d) : Gd c (d.hZ s) := ⟨(wW h.1 s).1, (wW h.1 s).2.1.trans h.2⟩
theorem Gd.bN {c d : Cu} (h : Gd c d) : Gd c d.bN.1 := ⟨(sM h.1).1, (sM h.1).2.1.trans h.2⟩
def Lb (c : Cu) (o : List V) (n : Nat) (l : List V) : Prop := l.length ≤ o.length + n * 100000001
theorem Lb.base {c : Cu} {o : List V} {n : Nat} : Lb c o n o := by unfold Lb; omega
theorem Lb.cO {c d : Cu} {o l : List V} {n : Nat} {s : List UInt8} (h : Lb c o n l) : Lb c o (n + 1) (l ++ bl (d.iZ s)) := by
 have := BU d s
 unfold Lb at h ⊢
 rw [List.length_append, cE]; omega
theorem Lb.bN {c d : Cu} {o l : List V} {n : Nat} (hl : c.s.length ≤ 100000000) (hd : Gd c d) (h : Lb c o n l) : Lb c o (n + 1) (l ++ bl d.bN.2) := by
 have h1 := (sM hd.1).2.2.2
 have h2 := hd.1.2
 rw [hd.2] at h2
 unfold Lb at h ⊢
 rw [List.length_append, cE]; omega
theorem Lb.fin {c : Cu} {o l : List V} (h : Lb c o 9 l) (ho : o.length ≤ 500000000) : l.length ≤ 1500000000 := by unfold Lb at h; omega
theorem yH {n : Nat} (h : n ≤ 1500000000) : n ≤ 2000000000 := by omega
theorem Gd.ax {c d : Cu} (h : Gd c d) : d.ok := h.1
theorem CZ (c : Cu) (o : List V) (hp : c.ok ∧ o.length ≤ 500000000 ∧ c.s.length ≤ 100000000) : OK 79 ([.ptr 0 0]) ([.cells [.ptr 1 0, .buf 2], .cells (eC c), .buf 1 0 o]) (.tuple []) (some [.cells [.ptr 1 0, .buf 2], .cells (eC c.gE.1), .buf 1 0 (o ++ bl c.gE.2)]) := by
 refine az (C := cx [(97, uK), (98, uJ)]) (ax ⟨EM, EL, trivial⟩) (fn := Try.f79) rfl rfl rfl rfl fun hw hs => ?_
 obtain ⟨hp, ho, hl⟩ := hp
 have gs : ∀ {d : Cu}, Gd c d → d.s.length ≤ 100000000 := fun h => by rw [h.2]; exact hl
 repeat' ((conv => whnf); first | apply al | apply bh | (apply ay <;> intro h))
 all_goals try conv => whnf
 all_goals try (refine af.mk ?_; try dsimp only)
 all_goals (try simp only [aO] at *)
 all_goals try refine stay ?_
 all_goals first
  | (refine (show True ∧ _ ∧ _ ∧ _ from ⟨trivial, ?_, ?_, ?_⟩) <;> first
   | decide
   | (refine Gd.ax (c := c) ?_
      repeat' (first | exact Gd.self hp | refine Gd.cO ?_ | refine Gd.bN ?_)
      done)
   | (refine gs ?_
      repeat' (first | exact Gd.self hp | refine Gd.cO ?_ | refine Gd.bN ?_)
      done)
   | (first | refine yH (Lb.fin (c := c) (o := o) ?_ ho) | refine Lb.fin (c := c) (o := o) ?_ ho
      repeat' (first | exact Lb.base | refine Lb.cO ?_ | refine Lb.bN hl ?_ ?_ | exact Gd.self hp | refine Gd.cO ?_ | refine Gd.bN ?_ | decide)
      done))
  | (refine (show True ∧ _ ∧ _ from ⟨trivial, ?_, ?_⟩) <;> first
   | (refine Gd.ax (c := c) ?_
      repeat' (first | exact Gd.self hp | refine Gd.cO ?_ | refine Gd.bN ?_)
      done)
   | (first | refine yH (Lb.fin (c := c) (o := o) ?_ ho) | refine Lb.fin (c := c) (o := o) ?_ ho
      repeat' (first | exact Lb.base | refine Lb.cO ?_ | refine Lb.bN hl ?_ ?_ | exact Gd.self hp | refine Gd.cO ?_ | refine Gd.bN ?_ | decide)
      done))
  | skip
 all_goals
  unfold Cu.gE CO.whole
  first | rw [if_pos (iJ.2 (by assumption))] | rw [if_neg (fun h => absurd (iJ.1 h) (by assumption))]
  unfold CO.behind
  first | rw [if_pos (iJ.2 (by assumption))] | rw [if_neg (fun h => absurd (iJ.1 h) (by assumption))]
  unfold CO.lW
  first | rw [if_pos (iJ.2 (by assumption))] | rw [if_neg (fun h => absurd (iJ.1 h) (by assumption))]
  refine ah.mk [] ?_ <;> (repeat' first | trivial | apply ak | apply aJ)
  all_goals (simp only [CO.cO, CO.bN, bz, List.append_assoc, List.nil_append]; done)
def uL : Sm := fun args σ => match args, σ with
 | [.ptr 0 0], [.cells [.ptr 1 0, .buf 2], .cells ([.str s_c, .int .i64 (.ofNat a_c), .int .i64 (.ofNat e_c), .int .i64 c_c]), .buf 1 0 o] => some (True ∧ ((Cu.mk s_c a_c e_c c_c).ok ∧ o.length ≤ 500000000 ∧ (Cu.mk s_c a_c e_c c_c).s.length ≤ 100000000), .tuple [], some [.cells [.ptr 1 0, .buf 2], .cells (eC (Cu.mk s_c a_c e_c c_c).gE.1), .buf 1 0 (o ++ bl (Cu.mk s_c a_c e_c c_c).gE.2)])
 | _, _ => none
theorem EN : aI 79 uL := by
 intro args sg pre x r he hp
 unfold uL at he
 split at he <;> cases he
 . rw [bW (hp).1]; exact CZ (hp := hp.2) ..
end Go.Proofs.Ytllncocibkgjkaa
