/-
  A part of the proof.
-/
import Derived.Test.YtllncocibkgjkaaJNd
set_option linter.unusedSimpArgs false
set_option linter.unusedVariables false
set_option maxHeartbeats 4000000
namespace Go.Proofs.Ytllncocibkgjkaa
open Go Go.VG
set_option maxRecDepth 100000
theorem jr {b : UInt8} : c9 b = true ↔ 48 ≤ b.toNat ∧ b.toNat ≤ 57 := by simp [c9]
theorem n9 {b : UInt8} : c9 b = false ↔ ¬ (48 ≤ b.toNat ∧ b.toNat ≤ 57) := by rw [← jr, Bool.not_eq_true]
theorem yk {c : Cu} (h : c.ok) (s : List UInt8) : (c.iC s).ok ∧ (c.iC s).s = c.s ∧ (c.iC s).e = c.e := by
 unfold Cu.iC; split
 . exact jK h 1
 . exact ⟨h, rfl, rfl⟩
theorem D1 (c : Cu) (s : List UInt8) : (c.jt s).length ≤ 1 := by unfold Cu.jt; split <;> simp
theorem y3 : ∀ (n : Nat) (c : Cu) (o : List UInt8), c.ok → (dz n c o).1.ok ∧ (dz n c o).1.s = c.s ∧ (dz n c o).1.e = c.e ∧ (dz n c o).2.length ≤ o.length + n + 1
 | 0, c, o, h => by
   have hb := jK h 1
   rw [dz]; exact ⟨hb.1, hb.2.1, hb.2.2, by simp⟩
 | n + 1, c, o, h => by
   have hb := jK h 1
   rw [dz]; split
   . have := y3 n c.byte (o ++ [c.ai]) hb.1
     refine ⟨this.1, this.2.1.trans hb.2.1, this.2.2.1.trans hb.2.2, ?_⟩
     have := this.2.2.2; simp at this; omega
   . exact ⟨hb.1, hb.2.1, hb.2.2, by simp⟩
theorem tD {c : Cu} (h : c.ok) : c.c8.1.ok ∧ c.c8.1.s = c.s ∧ c.c8.1.e = c.e ∧ c.c8.2.length ≤ c.e + 1 := by
 unfold Cu.c8; split
 . have := y3 (c.e - c.p) c [] h
   refine ⟨this.1, this.2.1, this.2.2.1, ?_⟩
   have := this.2.2.2; simp at this; omega
 . refine ⟨?_, ?_, ?_, by simp⟩
   all_goals
    dsimp only
    split
    . have hf := eU h 3
      have hb := jK hf.1 1
      first | exact hb.1 | exact hb.2.1.trans hf.2.1 | exact hb.2.2.trans hf.2.2.1
    . have hb := jK h 1
      first | exact hb.1 | exact hb.2.1 | exact hb.2.2
theorem E8 (c : Cu) (o : List V) (hp : c.ok ∧ o.length ≤ 2000000000) : OK 113 ([.ptr 0 0]) ([.cells [.ptr 1 0, .buf 2], .cells (eC c), .buf 1 0 o]) (.tuple []) (some [.cells [.ptr 1 0, .buf 2], .cells (eC c.byte), .buf 1 0 (o ++ bl [c.ai])]) := by
 refine aC (C := cx [(44, iR)]) (ay ⟨jD, trivial⟩) (fn := Try.f113) rfl rfl rfl rfl fun hw hs => ?_
 obtain ⟨hp, ho⟩ := hp
 repeat' ((conv => whnf); apply al)
 all_goals try conv => whnf
 all_goals try (refine ae.mk ?_; try dsimp only)
 all_goals (try simp only [aR] at *)
 all_goals first | refine stay ?_ | trivial | (simp only [d7]; omega) | skip
 all_goals
  refine a8.mk [] ?_ <;> (repeat' first | trivial)
def sk : Sm := fun args σ => match args, σ with
 | [.ptr 0 0], [.cells [.ptr 1 0, .buf 2], .cells ([.str s_c, .int .i64 (.ofNat a_c), .int .i64 (.ofNat e_c), .int .i64 c_c]), .buf 1 0 o] => some (True ∧ ((Cu.mk s_c a_c e_c c_c).ok ∧ o.length ≤ 2000000000), .tuple [], some [.cells [.ptr 1 0, .buf 2], .cells (eC (Cu.mk s_c a_c e_c c_c).byte), .buf 1 0 (o ++ bl [(Cu.mk s_c a_c e_c c_c).ai])])
 | _, _ => none
theorem zD : aD 113 sk := by
 intro args sg pre x r he hp
 unfold sk at he
 split at he <;> cases he
 . rw [bZ (hp).1]; exact E8 (hp := hp.2) ..
theorem E3 (c : Cu) (o : List V) (hp : c.ok) : OK 114 ([.ptr 0 0]) ([.cells [.ptr 1 0, .buf 2], .cells (eC c), .buf 1 0 o]) (.bool (c9 c.ai)) (none) := by
 refine aC (C := cx [(43, lG)]) (ay ⟨nL, trivial⟩) (fn := Try.f114) rfl rfl rfl rfl fun hw hs => ?_
 have hb : c.ai.toNat < 256 := c.ai.toNat_lt
 have hn : ¬ (c.c = 0 ∧ c.p < c.e) → c9 c.ai = false := fun h => by rw [n6 h]; decide
 repeat' ((conv => whnf); first | apply al | (apply ao <;> intro h))
 all_goals try conv => whnf
 all_goals try (refine ae.mk ?_; try dsimp only)
 all_goals (try simp only [aR] at *)
 all_goals first | refine stay ?_ | trivial | skip
 all_goals
  refine a8.mk [] ?_ <;> (repeat' first | trivial | apply aj | apply iD)
  first
  | exact (hn (by assumption)).symm
  | (cases h : c9 c.ai with
     | true => have := jr.1 h; first | rfl | (simp; omega)
     | false => have := n9.1 h; first | rfl | (simp; omega))
def vF : Sm := fun args σ => match args, σ with
 | [.ptr 0 0], [.cells [.ptr 1 0, .buf 2], .cells ([.str s_c, .int .i64 (.ofNat a_c), .int .i64 (.ofNat e_c), .int .i64 c_c]), .buf 1 0 o] => some (True ∧ ((Cu.mk s_c a_c e_c c_c).ok), .bool (c9 (Cu.mk s_c a_c e_c c_c).ai), none)
 | _, _ => none
theorem Gj : aD 114 vF := by
 intro args sg pre x r he hp
 unfold vF at he
 split at he <;> cases he
 . rw [bZ (hp).1]; exact E3 (hp := hp.2) ..
theorem E5 (c : Cu) (o : List V) (s : List UInt8) (hp : c.ok ∧ o.length ≤ 2000000000 ∧ s.length ≤ 100) : OK 97 ([.ptr 0 0, .str s]) ([.cells [.ptr 1 0, .buf 2], .cells (eC c), .buf 1 0 o]) (.bool (c.eR s)) (some [.cells [.ptr 1 0, .buf 2], .cells (eC (c.iC s)), .buf 1 0 (o ++ bl (c.jt s))]) := by
 refine aC (C := cx [(43, lG), (113, sk)]) (ay ⟨nL, zD, trivial⟩) (fn := Try.f97) rfl rfl rfl rfl fun hw hs => ?_
 obtain ⟨hp, ho, hs⟩ := hp
 have hb : c.ai.toNat < 256 := c.ai.toNat_lt
 have hbb : byte c.ai.toNat = c.ai := bH _
 repeat' ((conv => whnf); apply al)
 all_goals try conv => whnf
 all_goals try (refine ae.mk ?_; try dsimp only)
 all_goals (try simp only [aR] at *)
 all_goals first | refine stay ?_ | trivial | skip
 refine bn.mk Nat (fun i => i ≤ s.length ∧ ∀ j, j < i → ¬ (c.has ∧ s.getD j 0 = c.ai)) (fun i => ⟨32, [(0, .ptr 0 0), (1, .str s), (5, bv c.ai), (6, .bool (decide (c.c = 0 ∧ c.p < c.e))), (17, .int .i64 s.length), (18, .int .i64 i)], [.cells [.ptr 1 0, .buf 2], .cells (eC c), .buf 1 0 o], []⟩) (fun i => s.length - i) [] 0 ⟨by omega, fun j hj => absurd hj (by omega)⟩ ?_ (fun i ⟨hi, hj⟩ _ _ => ?_)
 . refine Go.VG.Sub.mk rfl ?_ ?_ ?_ ?_ <;> (repeat' first | trivial)
 have hx : (s.getD i 0).toNat < 256 := UInt8.toNat_lt _
 have yes : c.has → c.ai = s.getD i 0 → i < s.length → c.eR s = true := fun h e hl => j9.2 ⟨h, by rw [e, List.getD_eq_getElem?_getD, List.getElem?_eq_getElem hl]; exact List.getElem_mem hl⟩
 have no : i = s.length → c.eR s = false := fun e => by
  cases q : c.eR s with
  | false => rfl
  | true =>
    obtain ⟨q1, q2⟩ := j9.1 q
    obtain ⟨j, hjl, hje⟩ := List.getElem_of_mem q2
    exact absurd ⟨q1, by rw [List.getD_eq_getElem?_getD, List.getElem?_eq_getElem hjl]; exact hje⟩ (hj j (by omega))
 have next : ¬ (c.has ∧ s.getD i 0 = c.ai) → ∀ j, j < i + 1 → ¬ (c.has ∧ s.getD j 0 = c.ai) := fun h j hjj => by
  by_cases e : j = i
  . subst e; exact h
  . exact hj j (by omega)
 repeat' ((conv => whnf); first | apply al | (apply ao <;> intro h) | with_reducible refine eo ?_ fun hc => ?_)
 all_goals try conv => whnf
 all_goals try (refine ae.mk ?_; try dsimp only)
 all_goals (try simp only [aR] at *)
 all_goals first | refine stay ?_ | trivial | omega | skip
 all_goals (try simp only [hbb] at *)
 all_goals first
  | (refine ⟨[], i + 1, ⟨by omega, next fun h => ?_⟩, ?_, by omega⟩
     . first
       | exact absurd h.1 (by assumption)
       | (have := congrArg UInt8.toNat h.2; omega)
     . refine Go.VG.Sub.mk rfl ?_ ?_ ?_ ?_ <;> (repeat' first | trivial | apply aj | apply aQ)
       all_goals (simp (discharger := omega) only [wR]; omega))
  | skip
 . have e := yes (by assumption) (UInt8.toNat_inj.1 (by omega)) (by omega)
   unfold Cu.iC Cu.jt
   rw [if_pos e, if_pos e, e]
   refine a8.mk [] ?_ <;> (repeat' first | trivial)
 . have e := no (by omega)
   unfold Cu.iC Cu.jt
   rw [e]
   refine a8.mk [] ?_ <;> (repeat' first | trivial | apply aj | apply aV)
   simp [bl]
def vH : Sm := fun args σ => match args, σ with
 | [.ptr 0 0, .str s], [.cells [.ptr 1 0, .buf 2], .cells ([.str s_c, .int .i64 (.ofNat a_c), .int .i64 (.ofNat e_c), .int .i64 c_c]), .buf 1 0 o] => some (True ∧ ((Cu.mk s_c a_c e_c c_c).ok ∧ o.length ≤ 2000000000 ∧ s.length ≤ 100), .bool ((Cu.mk s_c a_c e_c c_c).eR s), some [.cells [.ptr 1 0, .buf 2], .cells (eC ((Cu.mk s_c a_c e_c c_c).iC s)), .buf 1 0 (o ++ bl ((Cu.mk s_c a_c e_c c_c).jt s))])
 | _, _ => none
theorem Gl : aD 97 vH := by
 intro args sg pre x r he hp
 unfold vH at he
 split at he <;> cases he
 . rw [bZ (hp).1]; exact E5 (hp := hp.2) ..
theorem E4 (c : Cu) (o : List V) (hp : c.ok ∧ o.length ≤ 1500000000 ∧ c.s.length ≤ 100000000) : OK 98 ([.ptr 0 0]) ([.cells [.ptr 1 0, .buf 2], .cells (eC c), .buf 1 0 o]) (.tuple []) (some [.cells [.ptr 1 0, .buf 2], .cells (eC c.c8.1), .buf 1 0 (o ++ bl c.c8.2)]) := by
 refine aC (C := cx [(114, vF), (115, vA), (49, jl), (44, iR), (113, sk)]) (ay ⟨Gj, Gc, kg, jD, zD, trivial⟩) (fn := Try.f98) rfl rfl rfl rfl fun hw hs => ?_
 obtain ⟨hp, ho, hl⟩ := hp
 have h1 := hp.1
 have h2 := hp.2
 have hf := eU hp 3
 repeat' ((conv => whnf); first | apply al | apply aZ | (apply ao <;> intro h))
 all_goals try conv => whnf
 all_goals try (refine ae.mk ?_; try dsimp only)
 all_goals (try simp only [aR] at *)
 all_goals first | refine stay ?_ | trivial | skip
 . have hd : c9 c.ai = true := jr.2 (by assumption)
   have hh : c.has := by
    rcases Decidable.em c.has with q | q
    . exact q
    . rw [n6 q] at hd; exact absurd hd (by decide)
   refine lM.mk (Nat × Cu × List UInt8) (fun | (n, d, s) => d.ok ∧ d.s = c.s ∧ d.has ∧ c9 d.ai = true ∧ d.e - d.p ≤ n ∧ s.length ≤ d.p ∧ dz n d s = c.c8)
    (fun | (n, d, s) => ⟨25, [(0, .ptr 0 0)], [.cells [.ptr 1 0, .buf 2], .cells (eC d), .buf 1 0 (o ++ bl s)], [2]⟩) (fun x => x.1) [] (c.e - c.p, c, []) ⟨hp, rfl, hh, hd, Nat.le_refl _, by simp, by unfold Cu.c8; rw [if_pos hd]⟩ ?_ (fun ⟨n, d, s⟩ ⟨hd1, hd2, hd3, hd4, hd5, hd6, hd7⟩ _ _ => ?_)
   . refine Go.VG.Sub.mk rfl ?_ ?_ ?_ ?_ <;> (repeat' first | trivial | apply aj | apply aV)
     simp [bl]
   have hsl : d.s.length ≤ 100000000 := by rw [hd2]; exact hl
   have e1 := hd1.1
   have e2 := hd1.2
   have e3 : d.c = 0 := hd3.1
   have e4 : d.p < d.e := hd3.2
   have hb1 := jK hd1 1
   have hb : d.byte.ok := hb1.1
   obtain ⟨b1, _⟩ := fh e3 e4
   have hbp : d.byte.p = d.p + 1 := by rw [b1]
   have hbe : d.byte.e = d.e := by rw [b1]
   have hbl := ea s
   obtain ⟨n, rfl⟩ : ∃ m, n = m + 1 := ⟨n - 1, by omega⟩
   rw [dz] at hd7
   repeat' ((conv => whnf); first | apply al | (apply ao <;> intro h))
   all_goals try conv => whnf
   all_goals try (refine ae.mk ?_; try dsimp only)
   all_goals (try simp only [aR] at *)
   all_goals first | refine stay ?_ | trivial | skip
   . exact ⟨trivial, hd1, by rw [List.length_append]; omega⟩
   . have q := jr.2 (by assumption)
     rw [if_pos q] at hd7
     have q2 : d.byte.has := by
      rcases Decidable.em d.byte.has with r | r
      . exact r
      . rw [n6 r] at q; exact absurd q (by decide)
     refine ⟨[], (n, d.byte, s ++ [d.ai]), ⟨hb, hb1.2.1.trans hd2, q2, q, by rw [hbe, hbp]; omega, by rw [List.length_append, List.length_singleton, hbp]; omega, hd7⟩, ?_, by show n < n + 1; omega⟩
     refine Go.VG.Sub.mk rfl ?_ ?_ ?_ ?_ <;> (repeat' first | trivial | apply aj | apply aV)
     rw [eE, List.append_assoc]
   . have q := n9.2 (by assumption)
     rw [if_neg (by rw [q]; decide)] at hd7
     rw [← hd7]
     refine a8.mk [] ?_ <;> (repeat' first | trivial | apply aj | apply aV)
     rw [eE, List.append_assoc]
 . exact ⟨trivial, hf.1⟩
 . have q1 := n9.2 (by assumption)
   unfold Cu.c8
   rw [if_neg (by rw [q1]; decide), if_pos (by assumption)]
   refine a8.mk [] ?_ <;> (repeat' first | trivial | apply aj | apply aV)
   simp [bl]
 . have q1 := n9.2 (by assumption)
   unfold Cu.c8
   rw [if_neg (by rw [q1]; decide), if_neg (by assumption)]
   refine a8.mk [] ?_ <;> (repeat' first | trivial | apply aj | apply aV)
   simp [bl]
def vG : Sm := fun args σ => match args, σ with
 | [.ptr 0 0], [.cells [.ptr 1 0, .buf 2], .cells ([.str s_c, .int .i64 (.ofNat a_c), .int .i64 (.ofNat e_c), .int .i64 c_c]), .buf 1 0 o] => some (True ∧ ((Cu.mk s_c a_c e_c c_c).ok ∧ o.length ≤ 1500000000 ∧ (Cu.mk s_c a_c e_c c_c).s.length ≤ 100000000), .tuple [], some [.cells [.ptr 1 0, .buf 2], .cells (eC (Cu.mk s_c a_c e_c c_c).c8.1), .buf 1 0 (o ++ bl (Cu.mk s_c a_c e_c c_c).c8.2)])
 | _, _ => none
theorem Gk : aD 98 vG := by
 intro args sg pre x r he hp
 unfold vG at he
 split at he <;> cases he
 . rw [bZ (hp).1]; exact E4 (hp := hp.2) ..
def Gd (c d : Cu) : Prop := d.ok ∧ d.s = c.s
theorem Gd.self {c : Cu} (h : c.ok) : Gd c c := ⟨h, rfl⟩
theorem Gd.dj {c d : Cu} {s : List UInt8} (h : Gd c d) : Gd c (d.iC s) := ⟨(yk h.1 s).1, (yk h.1 s).2.1.trans h.2⟩
theorem Gd.c8 {c d : Cu} (h : Gd c d) : Gd c d.c8.1 := ⟨(tD h.1).1, (tD h.1).2.1.trans h.2⟩
def Lb (c : Cu) (o : List V) (n : Nat) (l : List V) : Prop := l.length ≤ o.length + n * 100000001
theorem Lb.base {c : Cu} {o : List V} {n : Nat} : Lb c o n o := by unfold Lb; omega
theorem Lb.dj {c d : Cu} {o l : List V} {n : Nat} {s : List UInt8} (h : Lb c o n l) : Lb c o (n + 1) (l ++ bl (d.jt s)) := by
 have := D1 d s
 unfold Lb at h ⊢
 rw [List.length_append, ea]; omega
theorem Lb.c8 {c d : Cu} {o l : List V} {n : Nat} (hl : c.s.length ≤ 100000000) (hd : Gd c d) (h : Lb c o n l) : Lb c o (n + 1) (l ++ bl d.c8.2) := by
 have h1 := (tD hd.1).2.2.2
 have h2 := hd.1.2
 rw [hd.2] at h2
 unfold Lb at h ⊢
 rw [List.length_append, ea]; omega
theorem Lb.fin {c : Cu} {o l : List V} (h : Lb c o 9 l) (ho : o.length ≤ 500000000) : l.length ≤ 1500000000 := by unfold Lb at h; omega
theorem zW {n : Nat} (h : n ≤ 1500000000) : n ≤ 2000000000 := by omega
theorem Gd.ay {c d : Cu} (h : Gd c d) : d.ok := h.1
theorem E6 (c : Cu) (o : List V) (hp : c.ok ∧ o.length ≤ 500000000 ∧ c.s.length ≤ 100000000) : OK 79 ([.ptr 0 0]) ([.cells [.ptr 1 0, .buf 2], .cells (eC c), .buf 1 0 o]) (.tuple []) (some [.cells [.ptr 1 0, .buf 2], .cells (eC c.gX.1), .buf 1 0 (o ++ bl c.gX.2)]) := by
 refine aC (C := cx [(97, vH), (98, vG)]) (ay ⟨Gl, Gk, trivial⟩) (fn := Try.f79) rfl rfl rfl rfl fun hw hs => ?_
 obtain ⟨hp, ho, hl⟩ := hp
 have gs : ∀ {d : Cu}, Gd c d → d.s.length ≤ 100000000 := fun h => by rw [h.2]; exact hl
 repeat' ((conv => whnf); first | apply al | apply aZ | (apply ao <;> intro h))
 all_goals try conv => whnf
 all_goals try (refine ae.mk ?_; try dsimp only)
 all_goals (try simp only [aR] at *)
 all_goals try refine stay ?_
 all_goals first
  | (refine (show True ∧ _ ∧ _ ∧ _ from ⟨trivial, ?_, ?_, ?_⟩) <;> first
   | decide
   | (refine Gd.ay (c := c) ?_
      repeat' (first | exact Gd.self hp | refine Gd.dj ?_ | refine Gd.c8 ?_)
      done)
   | (refine gs ?_
      repeat' (first | exact Gd.self hp | refine Gd.dj ?_ | refine Gd.c8 ?_)
      done)
   | (first | refine zW (Lb.fin (c := c) (o := o) ?_ ho) | refine Lb.fin (c := c) (o := o) ?_ ho
      repeat' (first | exact Lb.base | refine Lb.dj ?_ | refine Lb.c8 hl ?_ ?_ | exact Gd.self hp | refine Gd.dj ?_ | refine Gd.c8 ?_ | decide)
      done))
  | (refine (show True ∧ _ ∧ _ from ⟨trivial, ?_, ?_⟩) <;> first
   | (refine Gd.ay (c := c) ?_
      repeat' (first | exact Gd.self hp | refine Gd.dj ?_ | refine Gd.c8 ?_)
      done)
   | (first | refine zW (Lb.fin (c := c) (o := o) ?_ ho) | refine Lb.fin (c := c) (o := o) ?_ ho
      repeat' (first | exact Lb.base | refine Lb.dj ?_ | refine Lb.c8 hl ?_ ?_ | exact Gd.self hp | refine Gd.dj ?_ | refine Gd.c8 ?_ | decide)
      done))
  | skip
 all_goals
  unfold Cu.gX CO.whole
  first | rw [if_pos (j9.2 (by assumption))] | rw [if_neg (fun h => absurd (j9.1 h) (by assumption))]
  unfold CO.behind
  first | rw [if_pos (j9.2 (by assumption))] | rw [if_neg (fun h => absurd (j9.1 h) (by assumption))]
  unfold CO.mF
  first | rw [if_pos (j9.2 (by assumption))] | rw [if_neg (fun h => absurd (j9.1 h) (by assumption))]
  refine a8.mk [] ?_ <;> (repeat' first | trivial | apply aj | apply aV)
  all_goals (simp only [CO.dj, CO.c8, eE, List.append_assoc, List.nil_append]; done)
def vI : Sm := fun args σ => match args, σ with
 | [.ptr 0 0], [.cells [.ptr 1 0, .buf 2], .cells ([.str s_c, .int .i64 (.ofNat a_c), .int .i64 (.ofNat e_c), .int .i64 c_c]), .buf 1 0 o] => some (True ∧ ((Cu.mk s_c a_c e_c c_c).ok ∧ o.length ≤ 500000000 ∧ (Cu.mk s_c a_c e_c c_c).s.length ≤ 100000000), .tuple [], some [.cells [.ptr 1 0, .buf 2], .cells (eC (Cu.mk s_c a_c e_c c_c).gX.1), .buf 1 0 (o ++ bl (Cu.mk s_c a_c e_c c_c).gX.2)])
 | _, _ => none
theorem Gm : aD 79 vI := by
 intro args sg pre x r he hp
 unfold vI at he
 split at he <;> cases he
 . rw [bZ (hp).1]; exact E6 (hp := hp.2) ..
end Go.Proofs.Ytllncocibkgjkaa
