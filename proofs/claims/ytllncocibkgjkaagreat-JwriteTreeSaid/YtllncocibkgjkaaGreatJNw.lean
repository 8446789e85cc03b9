/-
  A part of the proof.
-/
import Derived.Test.YtllncocibkgjkaaGreatJNd
set_option linter.unusedSimpArgs false
set_option linter.unusedVariables false
set_option maxHeartbeats 4000000
namespace Go.Proofs.YtllncocibkgjkaaGreat
open Go Go.VG
set_option maxRecDepth 100000
theorem jK {b : UInt8} : c8 b = true ↔ 48 ≤ b.toNat ∧ b.toNat ≤ 57 := by simp [c8]
theorem ns {b : UInt8} : c8 b = false ↔ ¬ (48 ≤ b.toNat ∧ b.toNat ≤ 57) := by rw [← jK, Bool.not_eq_true]
theorem yO {c : Cu} (h : c.ok) (s : List UInt8) : (c.iT s).ok ∧ (c.iT s).s = c.s ∧ (c.iT s).e = c.e := by
 unfold Cu.iT; split
 . exact ka h 1
 . exact ⟨h, rfl, rfl⟩
theorem DQ (c : Cu) (s : List UInt8) : (c.jL s).length ≤ 1 := by unfold Cu.jL; split <;> simp
theorem yD : ∀ (n : Nat) (c : Cu) (o : List UInt8), c.ok → (dC n c o).1.ok ∧ (dC n c o).1.s = c.s ∧ (dC n c o).1.e = c.e ∧ (dC n c o).2.length ≤ o.length + n + 1
 | 0, c, o, h => by
   have hb := ka h 1
   rw [dC]; exact ⟨hb.1, hb.2.1, hb.2.2, by simp⟩
 | n + 1, c, o, h => by
   have hb := ka h 1
   rw [dC]; split
   . have := yD n c.byte (o ++ [c.ah]) hb.1
     refine ⟨this.1, this.2.1.trans hb.2.1, this.2.2.1.trans hb.2.2, ?_⟩
     have := this.2.2.2; simp at this; omega
   . exact ⟨hb.1, hb.2.1, hb.2.2, by simp⟩
theorem ug {c : Cu} (h : c.ok) : c.c6.1.ok ∧ c.c6.1.s = c.s ∧ c.c6.1.e = c.e ∧ c.c6.2.length ≤ c.e + 1 := by
 unfold Cu.c6; split
 . have := yD (c.e - c.p) c [] h
   refine ⟨this.1, this.2.1, this.2.2.1, ?_⟩
   have := this.2.2.2; simp at this; omega
 . refine ⟨?_, ?_, ?_, by simp⟩
   all_goals
    dsimp only
    split
    . have hf := eV h 3
      have hb := ka hf.1 1
      first | exact hb.1 | exact hb.2.1.trans hf.2.1 | exact hb.2.2.trans hf.2.2.1
    . have hb := ka h 1
      first | exact hb.1 | exact hb.2.1 | exact hb.2.2
theorem F5 (c : Cu) (o : List V) (hp : c.ok ∧ o.length ≤ 2000000000) : OK 126 ([.ptr 0 0]) ([.cells [.ptr 1 0, .buf 2], .cells (eC c), .buf 1 0 o]) (.tuple []) (some [.cells [.ptr 1 0, .buf 2], .cells (eC c.byte), .buf 1 0 (o ++ bl [c.ah])]) := by
 refine aq (C := cx [(98, jd)]) (ar ⟨jV, trivial⟩) (fn := Tryz.f126) rfl rfl rfl rfl fun hw hs => ?_
 obtain ⟨hp, ho⟩ := hp
 repeat' ((conv => whnf); apply ak)
 all_goals try conv => whnf
 all_goals try (refine ab.mk ?_; try dsimp only)
 all_goals (try simp only [aP] at *)
 all_goals first | refine stay ?_ | trivial | (simp only [cK]; omega) | skip
 all_goals
  refine a8.mk [] ?_ <;> (repeat' first | trivial)
def sL : Sm := fun args σ => match args, σ with
 | [.ptr 0 0], [.cells [.ptr 1 0, .buf 2], .cells ([.str s_c, .int .i64 (.ofNat a_c), .int .i64 (.ofNat e_c), .int .i64 c_c]), .buf 1 0 o] => some (True ∧ ((Cu.mk s_c a_c e_c c_c).ok ∧ o.length ≤ 2000000000), .tuple [], some [.cells [.ptr 1 0, .buf 2], .cells (eC (Cu.mk s_c a_c e_c c_c).byte), .buf 1 0 (o ++ bl [(Cu.mk s_c a_c e_c c_c).ah])])
 | _, _ => none
theorem A5 : ay 126 sL := by
 intro args sg pre x r he hp
 unfold sL at he
 split at he <;> cases he
 . rw [bZ (hp).1]; exact F5 (hp := hp.2) ..
theorem F0 (c : Cu) (o : List V) (hp : c.ok) : OK 127 ([.ptr 0 0]) ([.cells [.ptr 1 0, .buf 2], .cells (eC c), .buf 1 0 o]) (.bool (c8 c.ah)) (none) := by
 refine aq (C := cx [(96, lY)]) (ar ⟨nY, trivial⟩) (fn := Tryz.f127) rfl rfl rfl rfl fun hw hs => ?_
 have hb : c.ah.toNat < 256 := c.ah.toNat_lt
 have hn : ¬ (c.c = 0 ∧ c.p < c.e) → c8 c.ah = false := fun h => by rw [nn h]; decide
 repeat' ((conv => whnf); first | apply ak | (apply al <;> intro h))
 all_goals try conv => whnf
 all_goals try (refine ab.mk ?_; try dsimp only)
 all_goals (try simp only [aP] at *)
 all_goals first | refine stay ?_ | trivial | skip
 all_goals
  refine a8.mk [] ?_ <;> (repeat' first | trivial | apply aj | apply ky)
  first
  | exact (hn (by assumption)).symm
  | (cases h : c8 c.ah with
     | true => have := jK.1 h; first | rfl | (simp; omega)
     | false => have := ns.1 h; first | rfl | (simp; omega))
def wm : Sm := fun args σ => match args, σ with
 | [.ptr 0 0], [.cells [.ptr 1 0, .buf 2], .cells ([.str s_c, .int .i64 (.ofNat a_c), .int .i64 (.ofNat e_c), .int .i64 c_c]), .buf 1 0 o] => some (True ∧ ((Cu.mk s_c a_c e_c c_c).ok), .bool (c8 (Cu.mk s_c a_c e_c c_c).ah), none)
 | _, _ => none
theorem Hs : ay 127 wm := by
 intro args sg pre x r he hp
 unfold wm at he
 split at he <;> cases he
 . rw [bZ (hp).1]; exact F0 (hp := hp.2) ..
theorem F2 (c : Cu) (o : List V) (s : List UInt8) (hp : c.ok ∧ o.length ≤ 2000000000 ∧ s.length ≤ 100) : OK 107 ([.ptr 0 0, .str s]) ([.cells [.ptr 1 0, .buf 2], .cells (eC c), .buf 1 0 o]) (.bool (c.eS s)) (some [.cells [.ptr 1 0, .buf 2], .cells (eC (c.iT s)), .buf 1 0 (o ++ bl (c.jL s))]) := by
 refine aq (C := cx [(96, lY), (126, sL)]) (ar ⟨nY, A5, trivial⟩) (fn := Tryz.f107) rfl rfl rfl rfl fun hw hs => ?_
 obtain ⟨hp, ho, hs⟩ := hp
 have hb : c.ah.toNat < 256 := c.ah.toNat_lt
 have hbb : byte c.ah.toNat = c.ah := c5 _
 repeat' ((conv => whnf); apply ak)
 all_goals try conv => whnf
 all_goals try (refine ab.mk ?_; try dsimp only)
 all_goals (try simp only [aP] at *)
 all_goals first | refine stay ?_ | trivial | skip
 refine bn.mk Nat (fun i => i ≤ s.length ∧ ∀ j, j < i → ¬ (c.has ∧ s.getD j 0 = c.ah)) (fun i => ⟨32, [(0, .ptr 0 0), (1, .str s), (5, bv c.ah), (6, .bool (decide (c.c = 0 ∧ c.p < c.e))), (17, .int .i64 s.length), (18, .int .i64 i)], [.cells [.ptr 1 0, .buf 2], .cells (eC c), .buf 1 0 o], []⟩) (fun i => s.length - i) [] 0 ⟨by omega, fun j hj => absurd hj (by omega)⟩ ?_ (fun i ⟨hi, hj⟩ _ _ => ?_)
 . refine Go.VG.Sub.mk rfl ?_ ?_ ?_ ?_ <;> (repeat' first | trivial)
 have hx : (s.getD i 0).toNat < 256 := UInt8.toNat_lt _
 have yes : c.has → c.ah = s.getD i 0 → i < s.length → c.eS s = true := fun h e hl => jq.2 ⟨h, by rw [e, List.getD_eq_getElem?_getD, List.getElem?_eq_getElem hl]; exact List.getElem_mem hl⟩
 have no : i = s.length → c.eS s = false := fun e => by
  cases q : c.eS s with
  | false => rfl
  | true =>
    obtain ⟨q1, q2⟩ := jq.1 q
    obtain ⟨j, hjl, hje⟩ := List.getElem_of_mem q2
    exact absurd ⟨q1, by rw [List.getD_eq_getElem?_getD, List.getElem?_eq_getElem hjl]; exact hje⟩ (hj j (by omega))
 have next : ¬ (c.has ∧ s.getD i 0 = c.ah) → ∀ j, j < i + 1 → ¬ (c.has ∧ s.getD j 0 = c.ah) := fun h j hjj => by
  by_cases e : j = i
  . subst e; exact h
  . exact hj j (by omega)
 repeat' ((conv => whnf); first | apply ak | (apply al <;> intro h) | with_reducible refine et ?_ fun hc => ?_)
 all_goals try conv => whnf
 all_goals try (refine ab.mk ?_; try dsimp only)
 all_goals (try simp only [aP] at *)
 all_goals first | refine stay ?_ | trivial | omega | skip
 all_goals (try simp only [hbb] at *)
 all_goals first
  | (refine ⟨[], i + 1, ⟨by omega, next fun h => ?_⟩, ?_, by omega⟩
     . first
       | exact absurd h.1 (by assumption)
       | (have := congrArg UInt8.toNat h.2; omega)
     . refine Go.VG.Sub.mk rfl ?_ ?_ ?_ ?_ <;> (repeat' first | trivial | apply aj | apply aR)
       all_goals (simp (discharger := omega) only [wR]; omega))
  | skip
 . have e := yes (by assumption) (UInt8.toNat_inj.1 (by omega)) (by omega)
   unfold Cu.iT Cu.jL
   rw [if_pos e, if_pos e, e]
   refine a8.mk [] ?_ <;> (repeat' first | trivial)
 . have e := no (by omega)
   unfold Cu.iT Cu.jL
   rw [e]
   refine a8.mk [] ?_ <;> (repeat' first | trivial | apply aj | apply aM)
   simp [bl]
def wq : Sm := fun args σ => match args, σ with
 | [.ptr 0 0, .str s], [.cells [.ptr 1 0, .buf 2], .cells ([.str s_c, .int .i64 (.ofNat a_c), .int .i64 (.ofNat e_c), .int .i64 c_c]), .buf 1 0 o] => some (True ∧ ((Cu.mk s_c a_c e_c c_c).ok ∧ o.length ≤ 2000000000 ∧ s.length ≤ 100), .bool ((Cu.mk s_c a_c e_c c_c).eS s), some [.cells [.ptr 1 0, .buf 2], .cells (eC ((Cu.mk s_c a_c e_c c_c).iT s)), .buf 1 0 (o ++ bl ((Cu.mk s_c a_c e_c c_c).jL s))])
 | _, _ => none
theorem Hu : ay 107 wq := by
 intro args sg pre x r he hp
 unfold wq at he
 split at he <;> cases he
 . rw [bZ (hp).1]; exact F2 (hp := hp.2) ..
theorem F1 (c : Cu) (o : List V) (hp : c.ok ∧ o.length ≤ 1500000000 ∧ c.s.length ≤ 100000000) : OK 108 ([.ptr 0 0]) ([.cells [.ptr 1 0, .buf 2], .cells (eC c), .buf 1 0 o]) (.tuple []) (some [.cells [.ptr 1 0, .buf 2], .cells (eC c.c6.1), .buf 1 0 (o ++ bl c.c6.2)]) := by
 refine aq (C := cx [(127, wm), (109, wb), (104, jE), (98, jd), (126, sL)]) (ar ⟨Hs, Hl, kH, jV, A5, trivial⟩) (fn := Tryz.f108) rfl rfl rfl rfl fun hw hs => ?_
 obtain ⟨hp, ho, hl⟩ := hp
 have h1 := hp.1
 have h2 := hp.2
 have hf := eV hp 3
 repeat' ((conv => whnf); first | apply ak | apply aV | (apply al <;> intro h))
 all_goals try conv => whnf
 all_goals try (refine ab.mk ?_; try dsimp only)
 all_goals (try simp only [aP] at *)
 all_goals first | refine stay ?_ | trivial | skip
 . have hd : c8 c.ah = true := jK.2 (by assumption)
   have hh : c.has := by
    rcases Decidable.em c.has with q | q
    . exact q
    . rw [nn q] at hd; exact absurd hd (by decide)
   refine mc.mk (Nat × Cu × List UInt8) (fun | (n, d, s) => d.ok ∧ d.s = c.s ∧ d.has ∧ c8 d.ah = true ∧ d.e - d.p ≤ n ∧ s.length ≤ d.p ∧ dC n d s = c.c6)
    (fun | (n, d, s) => ⟨25, [(0, .ptr 0 0)], [.cells [.ptr 1 0, .buf 2], .cells (eC d), .buf 1 0 (o ++ bl s)], [2]⟩) (fun x => x.1) [] (c.e - c.p, c, []) ⟨hp, rfl, hh, hd, Nat.le_refl _, by simp, by unfold Cu.c6; rw [if_pos hd]⟩ ?_ (fun ⟨n, d, s⟩ ⟨hd1, hd2, hd3, hd4, hd5, hd6, hd7⟩ _ _ => ?_)
   . refine Go.VG.Sub.mk rfl ?_ ?_ ?_ ?_ <;> (repeat' first | trivial | apply aj | apply aM)
     simp [bl]
   have hsl : d.s.length ≤ 100000000 := by rw [hd2]; exact hl
   have e1 := hd1.1
   have e2 := hd1.2
   have e3 : d.c = 0 := hd3.1
   have e4 : d.p < d.e := hd3.2
   have hb1 := ka hd1 1
   have hb : d.byte.ok := hb1.1
   obtain ⟨b1, _⟩ := fi e3 e4
   have hbp : d.byte.p = d.p + 1 := by rw [b1]
   have hbe : d.byte.e = d.e := by rw [b1]
   have hbl := fv s
   obtain ⟨n, rfl⟩ : ∃ m, n = m + 1 := ⟨n - 1, by omega⟩
   rw [dC] at hd7
   repeat' ((conv => whnf); first | apply ak | (apply al <;> intro h))
   all_goals try conv => whnf
   all_goals try (refine ab.mk ?_; try dsimp only)
   all_goals (try simp only [aP] at *)
   all_goals first | refine stay ?_ | trivial | skip
   . exact ⟨trivial, hd1, by rw [List.length_append]; omega⟩
   . have q := jK.2 (by assumption)
     rw [if_pos q] at hd7
     have q2 : d.byte.has := by
      rcases Decidable.em d.byte.has with r | r
      . exact r
      . rw [nn r] at q; exact absurd q (by decide)
     refine ⟨[], (n, d.byte, s ++ [d.ah]), ⟨hb, hb1.2.1.trans hd2, q2, q, by rw [hbe, hbp]; omega, by rw [List.length_append, List.length_singleton, hbp]; omega, hd7⟩, ?_, by show n < n + 1; omega⟩
     refine Go.VG.Sub.mk rfl ?_ ?_ ?_ ?_ <;> (repeat' first | trivial | apply aj | apply aM)
     rw [cz, List.append_assoc]
   . have q := ns.2 (by assumption)
     rw [if_neg (by rw [q]; decide)] at hd7
     rw [← hd7]
     refine a8.mk [] ?_ <;> (repeat' first | trivial | apply aj | apply aM)
     rw [cz, List.append_assoc]
 . exact ⟨trivial, hf.1⟩
 . have q1 := ns.2 (by assumption)
   unfold Cu.c6
   rw [if_neg (by rw [q1]; decide), if_pos (by assumption)]
   refine a8.mk [] ?_ <;> (repeat' first | trivial | apply aj | apply aM)
   simp [bl]
 . have q1 := ns.2 (by assumption)
   unfold Cu.c6
   rw [if_neg (by rw [q1]; decide), if_neg (by assumption)]
   refine a8.mk [] ?_ <;> (repeat' first | trivial | apply aj | apply aM)
   simp [bl]
def wo : Sm := fun args σ => match args, σ with
 | [.ptr 0 0], [.cells [.ptr 1 0, .buf 2], .cells ([.str s_c, .int .i64 (.ofNat a_c), .int .i64 (.ofNat e_c), .int .i64 c_c]), .buf 1 0 o] => some (True ∧ ((Cu.mk s_c a_c e_c c_c).ok ∧ o.length ≤ 1500000000 ∧ (Cu.mk s_c a_c e_c c_c).s.length ≤ 100000000), .tuple [], some [.cells [.ptr 1 0, .buf 2], .cells (eC (Cu.mk s_c a_c e_c c_c).c6.1), .buf 1 0 (o ++ bl (Cu.mk s_c a_c e_c c_c).c6.2)])
 | _, _ => none
theorem Ht : ay 108 wo := by
 intro args sg pre x r he hp
 unfold wo at he
 split at he <;> cases he
 . rw [bZ (hp).1]; exact F1 (hp := hp.2) ..
def Gd (c d : Cu) : Prop := d.ok ∧ d.s = c.s
theorem Gd.self {c : Cu} (h : c.ok) : Gd c c := ⟨h, rfl⟩
theorem Gd.dk {c d : Cu} {s : List UInt8} (h : Gd c d) : Gd c (d.iT s) := ⟨(yO h.1 s).1, (yO h.1 s).2.1.trans h.2⟩
theorem Gd.c6 {c d : Cu} (h : Gd c d) : Gd c d.c6.1 := ⟨(ug h.1).1, (ug h.1).2.1.trans h.2⟩
def Lb (c : Cu) (o : List V) (n : Nat) (l : List V) : Prop := l.length ≤ o.length + n * 100000001
theorem Lb.base {c : Cu} {o : List V} {n : Nat} : Lb c o n o := by unfold Lb; omega
theorem Lb.dk {c d : Cu} {o l : List V} {n : Nat} {s : List UInt8} (h : Lb c o n l) : Lb c o (n + 1) (l ++ bl (d.jL s)) := by
 have := DQ d s
 unfold Lb at h ⊢
 rw [List.length_append, fv]; omega
theorem Lb.c6 {c d : Cu} {o l : List V} {n : Nat} (hl : c.s.length ≤ 100000000) (hd : Gd c d) (h : Lb c o n l) : Lb c o (n + 1) (l ++ bl d.c6.2) := by
 have h1 := (ug hd.1).2.2.2
 have h2 := hd.1.2
 rw [hd.2] at h2
 unfold Lb at h ⊢
 rw [List.length_append, fv]; omega
theorem Lb.fin {c : Cu} {o l : List V} (h : Lb c o 9 l) (ho : o.length ≤ 500000000) : l.length ≤ 1500000000 := by unfold Lb at h; omega
theorem AF {n : Nat} (h : n ≤ 1500000000) : n ≤ 2000000000 := by omega
theorem Gd.ar {c d : Cu} (h : Gd c d) : d.ok := h.1
theorem F3 (c : Cu) (o : List V) (hp : c.ok ∧ o.length ≤ 500000000 ∧ c.s.length ≤ 100000000) : OK 76 ([.ptr 0 0]) ([.cells [.ptr 1 0, .buf 2], .cells (eC c), .buf 1 0 o]) (.tuple []) (some [.cells [.ptr 1 0, .buf 2], .cells (eC c.ij.1), .buf 1 0 (o ++ bl c.ij.2)]) := by
 refine aq (C := cx [(107, wq), (108, wo)]) (ar ⟨Hu, Ht, trivial⟩) (fn := Tryz.f76) rfl rfl rfl rfl fun hw hs => ?_
 obtain ⟨hp, ho, hl⟩ := hp
 have gs : ∀ {d : Cu}, Gd c d → d.s.length ≤ 100000000 := fun h => by rw [h.2]; exact hl
 repeat' ((conv => whnf); first | apply ak | apply aV | (apply al <;> intro h))
 all_goals try conv => whnf
 all_goals try (refine ab.mk ?_; try dsimp only)
 all_goals (try simp only [aP] at *)
 all_goals try refine stay ?_
 all_goals first
  | (refine (show True ∧ _ ∧ _ ∧ _ from ⟨trivial, ?_, ?_, ?_⟩) <;> first
   | decide
   | (refine Gd.ar (c := c) ?_
      repeat' (first | exact Gd.self hp | refine Gd.dk ?_ | refine Gd.c6 ?_)
      done)
   | (refine gs ?_
      repeat' (first | exact Gd.self hp | refine Gd.dk ?_ | refine Gd.c6 ?_)
      done)
   | (first | refine AF (Lb.fin (c := c) (o := o) ?_ ho) | refine Lb.fin (c := c) (o := o) ?_ ho
      repeat' (first | exact Lb.base | refine Lb.dk ?_ | refine Lb.c6 hl ?_ ?_ | exact Gd.self hp | refine Gd.dk ?_ | refine Gd.c6 ?_ | decide)
      done))
  | (refine (show True ∧ _ ∧ _ from ⟨trivial, ?_, ?_⟩) <;> first
   | (refine Gd.ar (c := c) ?_
      repeat' (first | exact Gd.self hp | refine Gd.dk ?_ | refine Gd.c6 ?_)
      done)
   | (first | refine AF (Lb.fin (c := c) (o := o) ?_ ho) | refine Lb.fin (c := c) (o := o) ?_ ho
      repeat' (first | exact Lb.base | refine Lb.dk ?_ | refine Lb.c6 hl ?_ ?_ | exact Gd.self hp | refine Gd.dk ?_ | refine Gd.c6 ?_ | decide)
      done))
  | skip
 all_goals
  unfold Cu.ij CO.whole
  first | rw [if_pos (jq.2 (by assumption))] | rw [if_neg (fun h => absurd (jq.1 h) (by assumption))]
  unfold CO.behind
  first | rw [if_pos (jq.2 (by assumption))] | rw [if_neg (fun h => absurd (jq.1 h) (by assumption))]
  unfold CO.mW
  first | rw [if_pos (jq.2 (by assumption))] | rw [if_neg (fun h => absurd (jq.1 h) (by assumption))]
  refine a8.mk [] ?_ <;> (repeat' first | trivial | apply aj | apply aM)
  all_goals (simp only [CO.dk, CO.c6, cz, List.append_assoc, List.nil_append]; done)
def wu : Sm := fun args σ => match args, σ with
 | [.ptr 0 0], [.cells [.ptr 1 0, .buf 2], .cells ([.str s_c, .int .i64 (.ofNat a_c), .int .i64 (.ofNat e_c), .int .i64 c_c]), .buf 1 0 o] => some (True ∧ ((Cu.mk s_c a_c e_c c_c).ok ∧ o.length ≤ 500000000 ∧ (Cu.mk s_c a_c e_c c_c).s.length ≤ 100000000), .tuple [], some [.cells [.ptr 1 0, .buf 2], .cells (eC (Cu.mk s_c a_c e_c c_c).ij.1), .buf 1 0 (o ++ bl (Cu.mk s_c a_c e_c c_c).ij.2)])
 | _, _ => none
theorem Hv : ay 76 wu := by
 intro args sg pre x r he hp
 unfold wu at he
 split at he <;> cases he
 . rw [bZ (hp).1]; exact F3 (hp := hp.2) ..
end Go.Proofs.YtllncocibkgjkaaGreat
