/-
  A part of the proof.
-/
import Derived.Test.YtllncocibkgjkaaDoorJNd
set_option linter.unusedSimpArgs false
set_option linter.unusedVariables false
set_option maxHeartbeats 4000000
namespace Go.Proofs.YtllncocibkgjkaaDoor
open Go Go.VG
set_option maxRecDepth 100000
theorem kx {b : UInt8} : cG b = true ↔ 48 ≤ b.toNat ∧ b.toNat ≤ 57 := by simp [cG]
theorem pE {b : UInt8} : cG b = false ↔ ¬ (48 ≤ b.toNat ∧ b.toNat ≤ 57) := by rw [← kx, Bool.not_eq_true]
theorem yB {c : Cu} (h : c.ok) (s : List UInt8) : (c.j9 s).ok ∧ (c.j9 s).s = c.s ∧ (c.j9 s).e = c.e := by
 unfold Cu.j9; split
 . exact kd h 1
 . exact ⟨h, rfl, rfl⟩
theorem Du (c : Cu) (s : List UInt8) : (c.jP s).length ≤ 1 := by unfold Cu.jP; split <;> simp
theorem yx : ∀ (n : Nat) (c : Cu) (o : List UInt8), c.ok → (dU n c o).1.ok ∧ (dU n c o).1.s = c.s ∧ (dU n c o).1.e = c.e ∧ (dU n c o).2.length ≤ o.length + n + 1
 | 0, c, o, h => by
   have hb := kd h 1
   rw [dU]; exact ⟨hb.1, hb.2.1, hb.2.2, by simp⟩
 | n + 1, c, o, h => by
   have hb := kd h 1
   rw [dU]; split
   . have := yx n c.byte (o ++ [c.af]) hb.1
     refine ⟨this.1, this.2.1.trans hb.2.1, this.2.2.1.trans hb.2.2, ?_⟩
     have := this.2.2.2; simp at this; omega
   . exact ⟨hb.1, hb.2.1, hb.2.2, by simp⟩
theorem ub {c : Cu} (h : c.ok) : c.cH.1.ok ∧ c.cH.1.s = c.s ∧ c.cH.1.e = c.e ∧ c.cH.2.length ≤ c.e + 1 := by
 unfold Cu.cH; split
 . have := yx (c.e - c.p) c [] h
   refine ⟨this.1, this.2.1, this.2.2.1, ?_⟩
   have := this.2.2.2; simp at this; omega
 . refine ⟨?_, ?_, ?_, by simp⟩
   all_goals
    dsimp only
    split
    . have hf := fA h 3
      have hb := kd hf.1 1
      first | exact hb.1 | exact hb.2.1.trans hf.2.1 | exact hb.2.2.trans hf.2.2.1
    . have hb := kd h 1
      first | exact hb.1 | exact hb.2.1 | exact hb.2.2
theorem ER (c : Cu) (o : List V) (hp : c.ok ∧ o.length ≤ 2000000000) : OK 78 ([.ptr 0 0]) ([.cells [.ptr 1 0, .buf 2], .cells (eC c), .buf 1 0 o]) (.tuple []) (some [.cells [.ptr 1 0, .buf 2], .cells (eC c.byte), .buf 1 0 (o ++ bl [c.af])]) := by
 refine aI (C := cx [(43, jq)]) (aG ⟨jX, trivial⟩) (fn := Tryd.f78) rfl rfl rfl rfl fun hw hs => ?_
 obtain ⟨hp, ho⟩ := hp
 repeat' ((conv => whnf); apply ai)
 all_goals try conv => whnf
 all_goals try (refine a8.mk ?_; try dsimp only)
 all_goals (try simp only [bJ] at *)
 all_goals first | refine stay ?_ | trivial | (simp only [ax]; omega) | skip
 all_goals
  refine ab.mk [] ?_ <;> (repeat' first | trivial)
def sX : Sm := fun args σ => match args, σ with
 | [.ptr 0 0], [.cells [.ptr 1 0, .buf 2], .cells ([.str s_c, .int .i64 (.ofNat a_c), .int .i64 (.ofNat e_c), .int .i64 c_c]), .buf 1 0 o] => some (True ∧ ((Cu.mk s_c a_c e_c c_c).ok ∧ o.length ≤ 2000000000), .tuple [], some [.cells [.ptr 1 0, .buf 2], .cells (eC (Cu.mk s_c a_c e_c c_c).byte), .buf 1 0 (o ++ bl [(Cu.mk s_c a_c e_c c_c).af])])
 | _, _ => none
theorem zM : aE 78 sX := by
 intro args sg pre x r he hp
 unfold sX at he
 split at he <;> cases he
 . rw [cR (hp).1]; exact ER (hp := hp.2) ..
theorem EL (c : Cu) (o : List V) (hp : c.ok) : OK 79 ([.ptr 0 0]) ([.cells [.ptr 1 0, .buf 2], .cells (eC c), .buf 1 0 o]) (.bool (cG c.af)) (none) := by
 refine aI (C := cx [(41, mb)]) (aG ⟨ot, trivial⟩) (fn := Tryd.f79) rfl rfl rfl rfl fun hw hs => ?_
 have hb : c.af.toNat < 256 := c.af.toNat_lt
 have hn : ¬ (c.c = 0 ∧ c.p < c.e) → cG c.af = false := fun h => by rw [nD h]; decide
 repeat' ((conv => whnf); first | apply ai | (apply aj <;> intro h))
 all_goals try conv => whnf
 all_goals try (refine a8.mk ?_; try dsimp only)
 all_goals (try simp only [bJ] at *)
 all_goals first | refine stay ?_ | trivial | skip
 all_goals
  refine ab.mk [] ?_ <;> (repeat' first | trivial | apply aa | apply aK)
  first
  | exact (hn (by assumption)).symm
  | (cases h : cG c.af with
     | true => have := kx.1 h; first | rfl | (simp; omega)
     | false => have := pE.1 h; first | rfl | (simp; omega))
def wg : Sm := fun args σ => match args, σ with
 | [.ptr 0 0], [.cells [.ptr 1 0, .buf 2], .cells ([.str s_c, .int .i64 (.ofNat a_c), .int .i64 (.ofNat e_c), .int .i64 c_c]), .buf 1 0 o] => some (True ∧ ((Cu.mk s_c a_c e_c c_c).ok), .bool (cG (Cu.mk s_c a_c e_c c_c).af), none)
 | _, _ => none
theorem Gu : aE 79 wg := by
 intro args sg pre x r he hp
 unfold wg at he
 split at he <;> cases he
 . rw [cR (hp).1]; exact EL (hp := hp.2) ..
theorem EN (c : Cu) (o : List V) (s : List UInt8) (hp : c.ok ∧ o.length ≤ 2000000000 ∧ s.length ≤ 100) : OK 71 ([.ptr 0 0, .str s]) ([.cells [.ptr 1 0, .buf 2], .cells (eC c), .buf 1 0 o]) (.bool (c.fy s)) (some [.cells [.ptr 1 0, .buf 2], .cells (eC (c.j9 s)), .buf 1 0 (o ++ bl (c.jP s))]) := by
 refine aI (C := cx [(41, mb), (78, sX)]) (aG ⟨ot, zM, trivial⟩) (fn := Tryd.f71) rfl rfl rfl rfl fun hw hs => ?_
 obtain ⟨hp, ho, hs⟩ := hp
 have hb : c.af.toNat < 256 := c.af.toNat_lt
 have hbb : byte c.af.toNat = c.af := dx _
 repeat' ((conv => whnf); apply ai)
 all_goals try conv => whnf
 all_goals try (refine a8.mk ?_; try dsimp only)
 all_goals (try simp only [bJ] at *)
 all_goals first | refine stay ?_ | trivial | skip
 refine cB.mk Nat (fun i => i ≤ s.length ∧ ∀ j, j < i → ¬ (c.has ∧ s.getD j 0 = c.af)) (fun i => ⟨32, [(0, .ptr 0 0), (1, .str s), (5, bv c.af), (6, .bool (decide (c.c = 0 ∧ c.p < c.e))), (17, .int .i64 s.length), (18, .int .i64 i)], [.cells [.ptr 1 0, .buf 2], .cells (eC c), .buf 1 0 o], []⟩) (fun i => s.length - i) [] 0 ⟨by omega, fun j hj => absurd hj (by omega)⟩ ?_ (fun i ⟨hi, hj⟩ _ _ => ?_)
 . refine Go.VG.Sub.mk rfl ?_ ?_ ?_ ?_ <;> (repeat' first | trivial)
 have hx : (s.getD i 0).toNat < 256 := UInt8.toNat_lt _
 have yes : c.has → c.af = s.getD i 0 → i < s.length → c.fy s = true := fun h e hl => jC.2 ⟨h, by rw [e, List.getD_eq_getElem?_getD, List.getElem?_eq_getElem hl]; exact List.getElem_mem hl⟩
 have no : i = s.length → c.fy s = false := fun e => by
  cases q : c.fy s with
  | false => rfl
  | true =>
    obtain ⟨q1, q2⟩ := jC.1 q
    obtain ⟨j, hjl, hje⟩ := List.getElem_of_mem q2
    exact absurd ⟨q1, by rw [List.getD_eq_getElem?_getD, List.getElem?_eq_getElem hjl]; exact hje⟩ (hj j (by omega))
 have next : ¬ (c.has ∧ s.getD i 0 = c.af) → ∀ j, j < i + 1 → ¬ (c.has ∧ s.getD j 0 = c.af) := fun h j hjj => by
  by_cases e : j = i
  . subst e; exact h
  . exact hj j (by omega)
 repeat' ((conv => whnf); first | apply ai | (apply aj <;> intro h) | with_reducible refine aY ?_ fun hc => ?_)
 all_goals try conv => whnf
 all_goals try (refine a8.mk ?_; try dsimp only)
 all_goals (try simp only [bJ] at *)
 all_goals first | refine stay ?_ | trivial | omega | skip
 all_goals (try simp only [hbb] at *)
 all_goals first
  | (refine ⟨[], i + 1, ⟨by omega, next fun h => ?_⟩, ?_, by omega⟩
     . first
       | exact absurd h.1 (by assumption)
       | (have := congrArg UInt8.toNat h.2; omega)
     . refine Go.VG.Sub.mk rfl ?_ ?_ ?_ ?_ <;> (repeat' first | trivial | apply aa | apply ar)
       all_goals (simp (discharger := omega) only [wR]; omega))
  | skip
 . have e := yes (by assumption) (UInt8.toNat_inj.1 (by omega)) (by omega)
   unfold Cu.j9 Cu.jP
   rw [if_pos e, if_pos e, e]
   refine ab.mk [] ?_ <;> (repeat' first | trivial)
 . have e := no (by omega)
   unfold Cu.j9 Cu.jP
   rw [e]
   refine ab.mk [] ?_ <;> (repeat' first | trivial | apply aa | apply ak)
   simp [bl]
def wi : Sm := fun args σ => match args, σ with
 | [.ptr 0 0, .str s], [.cells [.ptr 1 0, .buf 2], .cells ([.str s_c, .int .i64 (.ofNat a_c), .int .i64 (.ofNat e_c), .int .i64 c_c]), .buf 1 0 o] => some (True ∧ ((Cu.mk s_c a_c e_c c_c).ok ∧ o.length ≤ 2000000000 ∧ s.length ≤ 100), .bool ((Cu.mk s_c a_c e_c c_c).fy s), some [.cells [.ptr 1 0, .buf 2], .cells (eC ((Cu.mk s_c a_c e_c c_c).j9 s)), .buf 1 0 (o ++ bl ((Cu.mk s_c a_c e_c c_c).jP s))])
 | _, _ => none
theorem Gw : aE 71 wi := by
 intro args sg pre x r he hp
 unfold wi at he
 split at he <;> cases he
 . rw [cR (hp).1]; exact EN (hp := hp.2) ..
theorem EM (c : Cu) (o : List V) (hp : c.ok ∧ o.length ≤ 1500000000 ∧ c.s.length ≤ 100000000) : OK 72 ([.ptr 0 0]) ([.cells [.ptr 1 0, .buf 2], .cells (eC c), .buf 1 0 o]) (.tuple []) (some [.cells [.ptr 1 0, .buf 2], .cells (eC c.cH.1), .buf 1 0 (o ++ bl c.cH.2)]) := by
 refine aI (C := cx [(79, wg), (80, vY), (49, jK), (43, jq), (78, sX)]) (aG ⟨Gu, Gl, kK, jX, zM, trivial⟩) (fn := Tryd.f72) rfl rfl rfl rfl fun hw hs => ?_
 obtain ⟨hp, ho, hl⟩ := hp
 have h1 := hp.1
 have h2 := hp.2
 have hf := fA hp 3
 repeat' ((conv => whnf); first | apply ai | apply aw | (apply aj <;> intro h))
 all_goals try conv => whnf
 all_goals try (refine a8.mk ?_; try dsimp only)
 all_goals (try simp only [bJ] at *)
 all_goals first | refine stay ?_ | trivial | skip
 . have hd : cG c.af = true := kx.2 (by assumption)
   have hh : c.has := by
    rcases Decidable.em c.has with q | q
    . exact q
    . rw [nD q] at hd; exact absurd hd (by decide)
   refine mi.mk (Nat × Cu × List UInt8) (fun | (n, d, s) => d.ok ∧ d.s = c.s ∧ d.has ∧ cG d.af = true ∧ d.e - d.p ≤ n ∧ s.length ≤ d.p ∧ dU n d s = c.cH)
    (fun | (n, d, s) => ⟨25, [(0, .ptr 0 0)], [.cells [.ptr 1 0, .buf 2], .cells (eC d), .buf 1 0 (o ++ bl s)], [2]⟩) (fun x => x.1) [] (c.e - c.p, c, []) ⟨hp, rfl, hh, hd, Nat.le_refl _, by simp, by unfold Cu.cH; rw [if_pos hd]⟩ ?_ (fun ⟨n, d, s⟩ ⟨hd1, hd2, hd3, hd4, hd5, hd6, hd7⟩ _ _ => ?_)
   . refine Go.VG.Sub.mk rfl ?_ ?_ ?_ ?_ <;> (repeat' first | trivial | apply aa | apply ak)
     simp [bl]
   have hsl : d.s.length ≤ 100000000 := by rw [hd2]; exact hl
   have e1 := hd1.1
   have e2 := hd1.2
   have e3 : d.c = 0 := hd3.1
   have e4 : d.p < d.e := hd3.2
   have hb1 := kd hd1 1
   have hb : d.byte.ok := hb1.1
   obtain ⟨b1, _⟩ := fJ e3 e4
   have hbp : d.byte.p = d.p + 1 := by rw [b1]
   have hbe : d.byte.e = d.e := by rw [b1]
   have hbl := cU s
   obtain ⟨n, rfl⟩ : ∃ m, n = m + 1 := ⟨n - 1, by omega⟩
   rw [dU] at hd7
   repeat' ((conv => whnf); first | apply ai | (apply aj <;> intro h))
   all_goals try conv => whnf
   all_goals try (refine a8.mk ?_; try dsimp only)
   all_goals (try simp only [bJ] at *)
   all_goals first | refine stay ?_ | trivial | skip
   . exact ⟨trivial, hd1, by rw [List.length_append]; omega⟩
   . have q := kx.2 (by assumption)
     rw [if_pos q] at hd7
     have q2 : d.byte.has := by
      rcases Decidable.em d.byte.has with r | r
      . exact r
      . rw [nD r] at q; exact absurd q (by decide)
     refine ⟨[], (n, d.byte, s ++ [d.af]), ⟨hb, hb1.2.1.trans hd2, q2, q, by rw [hbe, hbp]; omega, by rw [List.length_append, List.length_singleton, hbp]; omega, hd7⟩, ?_, by show n < n + 1; omega⟩
     refine Go.VG.Sub.mk rfl ?_ ?_ ?_ ?_ <;> (repeat' first | trivial | apply aa | apply ak)
     rw [dw, List.append_assoc]
   . have q := pE.2 (by assumption)
     rw [if_neg (by rw [q]; decide)] at hd7
     rw [← hd7]
     refine ab.mk [] ?_ <;> (repeat' first | trivial | apply aa | apply ak)
     rw [dw, List.append_assoc]
 . exact ⟨trivial, hf.1⟩
 . have q1 := pE.2 (by assumption)
   unfold Cu.cH
   rw [if_neg (by rw [q1]; decide), if_pos (by assumption)]
   refine ab.mk [] ?_ <;> (repeat' first | trivial | apply aa | apply ak)
   simp [bl]
 . have q1 := pE.2 (by assumption)
   unfold Cu.cH
   rw [if_neg (by rw [q1]; decide), if_neg (by assumption)]
   refine ab.mk [] ?_ <;> (repeat' first | trivial | apply aa | apply ak)
   simp [bl]
def wh : Sm := fun args σ => match args, σ with
 | [.ptr 0 0], [.cells [.ptr 1 0, .buf 2], .cells ([.str s_c, .int .i64 (.ofNat a_c), .int .i64 (.ofNat e_c), .int .i64 c_c]), .buf 1 0 o] => some (True ∧ ((Cu.mk s_c a_c e_c c_c).ok ∧ o.length ≤ 1500000000 ∧ (Cu.mk s_c a_c e_c c_c).s.length ≤ 100000000), .tuple [], some [.cells [.ptr 1 0, .buf 2], .cells (eC (Cu.mk s_c a_c e_c c_c).cH.1), .buf 1 0 (o ++ bl (Cu.mk s_c a_c e_c c_c).cH.2)])
 | _, _ => none
theorem Gv : aE 72 wh := by
 intro args sg pre x r he hp
 unfold wh at he
 split at he <;> cases he
 . rw [cR (hp).1]; exact EM (hp := hp.2) ..
def Gd (c d : Cu) : Prop := d.ok ∧ d.s = c.s
theorem Gd.self {c : Cu} (h : c.ok) : Gd c c := ⟨h, rfl⟩
theorem Gd.dE {c d : Cu} {s : List UInt8} (h : Gd c d) : Gd c (d.j9 s) := ⟨(yB h.1 s).1, (yB h.1 s).2.1.trans h.2⟩
theorem Gd.cH {c d : Cu} (h : Gd c d) : Gd c d.cH.1 := ⟨(ub h.1).1, (ub h.1).2.1.trans h.2⟩
def Lb (c : Cu) (o : List V) (n : Nat) (l : List V) : Prop := l.length ≤ o.length + n * 100000001
theorem Lb.base {c : Cu} {o : List V} {n : Nat} : Lb c o n o := by unfold Lb; omega
theorem Lb.dE {c d : Cu} {o l : List V} {n : Nat} {s : List UInt8} (h : Lb c o n l) : Lb c o (n + 1) (l ++ bl (d.jP s)) := by
 have := Du d s
 unfold Lb at h ⊢
 rw [List.length_append, cU]; omega
theorem Lb.cH {c d : Cu} {o l : List V} {n : Nat} (hl : c.s.length ≤ 100000000) (hd : Gd c d) (h : Lb c o n l) : Lb c o (n + 1) (l ++ bl d.cH.2) := by
 have h1 := (ub hd.1).2.2.2
 have h2 := hd.1.2
 rw [hd.2] at h2
 unfold Lb at h ⊢
 rw [List.length_append, cU]; omega
theorem Lb.fin {c : Cu} {o l : List V} (h : Lb c o 9 l) (ho : o.length ≤ 500000000) : l.length ≤ 1500000000 := by unfold Lb at h; omega
theorem A6 {n : Nat} (h : n ≤ 1500000000) : n ≤ 2000000000 := by omega
theorem Gd.aG {c d : Cu} (h : Gd c d) : d.ok := h.1
theorem EO (c : Cu) (o : List V) (hp : c.ok ∧ o.length ≤ 500000000 ∧ c.s.length ≤ 100000000) : OK 64 ([.ptr 0 0]) ([.cells [.ptr 1 0, .buf 2], .cells (eC c), .buf 1 0 o]) (.tuple []) (some [.cells [.ptr 1 0, .buf 2], .cells (eC c.iI.1), .buf 1 0 (o ++ bl c.iI.2)]) := by
 refine aI (C := cx [(71, wi), (72, wh)]) (aG ⟨Gw, Gv, trivial⟩) (fn := Tryd.f64) rfl rfl rfl rfl fun hw hs => ?_
 obtain ⟨hp, ho, hl⟩ := hp
 have gs : ∀ {d : Cu}, Gd c d → d.s.length ≤ 100000000 := fun h => by rw [h.2]; exact hl
 repeat' ((conv => whnf); first | apply ai | apply aw | (apply aj <;> intro h))
 all_goals try conv => whnf
 all_goals try (refine a8.mk ?_; try dsimp only)
 all_goals (try simp only [bJ] at *)
 all_goals try refine stay ?_
 all_goals first
  | (refine (show True ∧ _ ∧ _ ∧ _ from ⟨trivial, ?_, ?_, ?_⟩) <;> first
   | decide
   | (refine Gd.aG (c := c) ?_
      repeat' (first | exact Gd.self hp | refine Gd.dE ?_ | refine Gd.cH ?_)
      done)
   | (refine gs ?_
      repeat' (first | exact Gd.self hp | refine Gd.dE ?_ | refine Gd.cH ?_)
      done)
   | (first | refine A6 (Lb.fin (c := c) (o := o) ?_ ho) | refine Lb.fin (c := c) (o := o) ?_ ho
      repeat' (first | exact Lb.base | refine Lb.dE ?_ | refine Lb.cH hl ?_ ?_ | exact Gd.self hp | refine Gd.dE ?_ | refine Gd.cH ?_ | decide)
      done))
  | (refine (show True ∧ _ ∧ _ from ⟨trivial, ?_, ?_⟩) <;> first
   | (refine Gd.aG (c := c) ?_
      repeat' (first | exact Gd.self hp | refine Gd.dE ?_ | refine Gd.cH ?_)
      done)
   | (first | refine A6 (Lb.fin (c := c) (o := o) ?_ ho) | refine Lb.fin (c := c) (o := o) ?_ ho
      repeat' (first | exact Lb.base | refine Lb.dE ?_ | refine Lb.cH hl ?_ ?_ | exact Gd.self hp | refine Gd.dE ?_ | refine Gd.cH ?_ | decide)
      done))
  | skip
 all_goals
  unfold Cu.iI CO.whole
  first | rw [if_pos (jC.2 (by assumption))] | rw [if_neg (fun h => absurd (jC.1 h) (by assumption))]
  unfold CO.behind
  first | rw [if_pos (jC.2 (by assumption))] | rw [if_neg (fun h => absurd (jC.1 h) (by assumption))]
  unfold CO.n9
  first | rw [if_pos (jC.2 (by assumption))] | rw [if_neg (fun h => absurd (jC.1 h) (by assumption))]
  refine ab.mk [] ?_ <;> (repeat' first | trivial | apply aa | apply ak)
  all_goals (simp only [CO.dE, CO.cH, dw, List.append_assoc, List.nil_append]; done)
def wj : Sm := fun args σ => match args, σ with
 | [.ptr 0 0], [.cells [.ptr 1 0, .buf 2], .cells ([.str s_c, .int .i64 (.ofNat a_c), .int .i64 (.ofNat e_c), .int .i64 c_c]), .buf 1 0 o] => some (True ∧ ((Cu.mk s_c a_c e_c c_c).ok ∧ o.length ≤ 500000000 ∧ (Cu.mk s_c a_c e_c c_c).s.length ≤ 100000000), .tuple [], some [.cells [.ptr 1 0, .buf 2], .cells (eC (Cu.mk s_c a_c e_c c_c).iI.1), .buf 1 0 (o ++ bl (Cu.mk s_c a_c e_c c_c).iI.2)])
 | _, _ => none
theorem Gx : aE 64 wj := by
 intro args sg pre x r he hp
 unfold wj at he
 split at he <;> cases he
 . rw [cR (hp).1]; exact EO (hp := hp.2) ..
end Go.Proofs.YtllncocibkgjkaaDoor
