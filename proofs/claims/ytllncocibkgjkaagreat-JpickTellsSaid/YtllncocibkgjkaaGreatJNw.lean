/-
  A part of the proof.
-/
import Derived.Test.YtllncocibkgjkaaGreatJNd
set_option linter.unusedSimpArgs false
set_option linter.unusedVariables false
set_option maxHeartbeats 4000000
namespace Go.Proofs.YtllncocibkgjkaaGreat
open Go Go.VG
set_option maxRecDepth 100000
theorem mD {b : UInt8} : aN b = true ↔ 48 ≤ b.toNat ∧ b.toNat ≤ 57 := by simp [aN]
theorem nD {b : UInt8} : aN b = false ↔ ¬ (48 ≤ b.toNat ∧ b.toNat ≤ 57) := by rw [← mD, Bool.not_eq_true]
theorem zq {c : Cu} (h : c.ok) (s : List UInt8) : (c.iP s).ok ∧ (c.iP s).s = c.s ∧ (c.iP s).e = c.e := by
 unfold Cu.iP; split
 . exact jZ h 1
 . exact ⟨h, rfl, rfl⟩
theorem Eh (c : Cu) (s : List UInt8) : (c.jE s).length ≤ 1 := by unfold Cu.jE; split <;> simp
theorem ze : ∀ (n : Nat) (c : Cu) (o : List UInt8), c.ok → (dC n c o).1.ok ∧ (dC n c o).1.s = c.s ∧ (dC n c o).1.e = c.e ∧ (dC n c o).2.length ≤ o.length + n + 1
 | 0, c, o, h => by
   have hb := jZ h 1
   rw [dC]; exact ⟨hb.1, hb.2.1, hb.2.2, by simp⟩
 | n + 1, c, o, h => by
   have hb := jZ h 1
   rw [dC]; split
   . have := ze n c.byte (o ++ [c.ai]) hb.1
     refine ⟨this.1, this.2.1.trans hb.2.1, this.2.2.1.trans hb.2.2, ?_⟩
     have := this.2.2.2; simp at this; omega
   . exact ⟨hb.1, hb.2.1, hb.2.2, by simp⟩
theorem ur {c : Cu} (h : c.ok) : c.aL.1.ok ∧ c.aL.1.s = c.s ∧ c.aL.1.e = c.e ∧ c.aL.2.length ≤ c.e + 1 := by
 unfold Cu.aL; split
 . have := ze (c.e - c.p) c [] h
   refine ⟨this.1, this.2.1, this.2.2.1, ?_⟩
   have := this.2.2.2; simp at this; omega
 . refine ⟨?_, ?_, ?_, by simp⟩
   all_goals
    dsimp only
    split
    . have hf := fh h 3
      have hb := jZ hf.1 1
      first | exact hb.1 | exact hb.2.1.trans hf.2.1 | exact hb.2.2.trans hf.2.2.1
    . have hb := jZ h 1
      first | exact hb.1 | exact hb.2.1 | exact hb.2.2
theorem FO (c : Cu) (o : List V) (hp : c.ok ∧ o.length ≤ 2000000000) : OK 126 ([.ptr 0 0]) ([.cells [.ptr 1 0, .buf 2], .cells (eC c), .buf 1 0 o]) (.tuple []) (some [.cells [.ptr 1 0, .buf 2], .cells (eC c.byte), .buf 1 0 (o ++ bl [c.ai])]) := by
 refine au (C := cx [(98, j7)]) (aq ⟨jQ, trivial⟩) (fn := Tryz.f126) rfl rfl rfl rfl fun hw hs => ?_
 obtain ⟨hp, ho⟩ := hp
 repeat' ((conv => whnf); apply ak)
 all_goals try conv => whnf
 all_goals try (refine a9.mk ?_; try dsimp only)
 all_goals (try simp only [aK] at *)
 all_goals first | refine stay ?_ | trivial | (simp only [ig]; omega) | skip
 all_goals
  refine a8.mk [] ?_ <;> (repeat' first | trivial)
def tu : Sm := fun args σ => match args, σ with
 | [.ptr 0 0], [.cells [.ptr 1 0, .buf 2], .cells ([.str s_c, .int .i64 (.ofNat a_c), .int .i64 (.ofNat e_c), .int .i64 c_c]), .buf 1 0 o] => some (True ∧ ((Cu.mk s_c a_c e_c c_c).ok ∧ o.length ≤ 2000000000), .tuple [], some [.cells [.ptr 1 0, .buf 2], .cells (eC (Cu.mk s_c a_c e_c c_c).byte), .buf 1 0 (o ++ bl [(Cu.mk s_c a_c e_c c_c).ai])])
 | _, _ => none
theorem AL : aw 126 tu := by
 intro args sg pre x r he hp
 unfold tu at he
 split at he <;> cases he
 . rw [c7 (hp).1]; exact FO (hp := hp.2) ..
theorem FG (c : Cu) (o : List V) (hp : c.ok) : OK 127 ([.ptr 0 0]) ([.cells [.ptr 1 0, .buf 2], .cells (eC c), .buf 1 0 o]) (.bool (aN c.ai)) (none) := by
 refine au (C := cx [(96, me)]) (aq ⟨oy, trivial⟩) (fn := Tryz.f127) rfl rfl rfl rfl fun hw hs => ?_
 have hb : c.ai.toNat < 256 := c.ai.toNat_lt
 have hn : ¬ (c.c = 0 ∧ c.p < c.e) → aN c.ai = false := fun h => by rw [nz h]; decide
 repeat' ((conv => whnf); first | apply ak | (apply al <;> intro h))
 all_goals try conv => whnf
 all_goals try (refine a9.mk ?_; try dsimp only)
 all_goals (try simp only [aK] at *)
 all_goals first | refine stay ?_ | trivial | skip
 all_goals
  refine a8.mk [] ?_ <;> (repeat' first | trivial | apply ae | apply jF)
  first
  | exact (hn (by assumption)).symm
  | (cases h : aN c.ai with
     | true => have := mD.1 h; first | rfl | (simp; omega)
     | false => have := nD.1 h; first | rfl | (simp; omega))
def wO : Sm := fun args σ => match args, σ with
 | [.ptr 0 0], [.cells [.ptr 1 0, .buf 2], .cells ([.str s_c, .int .i64 (.ofNat a_c), .int .i64 (.ofNat e_c), .int .i64 c_c]), .buf 1 0 o] => some (True ∧ ((Cu.mk s_c a_c e_c c_c).ok), .bool (aN (Cu.mk s_c a_c e_c c_c).ai), none)
 | _, _ => none
theorem HZ : aw 127 wO := by
 intro args sg pre x r he hp
 unfold wO at he
 split at he <;> cases he
 . rw [c7 (hp).1]; exact FG (hp := hp.2) ..
theorem FJ (c : Cu) (o : List V) (s : List UInt8) (hp : c.ok ∧ o.length ≤ 2000000000 ∧ s.length ≤ 100) : OK 107 ([.ptr 0 0, .str s]) ([.cells [.ptr 1 0, .buf 2], .cells (eC c), .buf 1 0 o]) (.bool (c.ff s)) (some [.cells [.ptr 1 0, .buf 2], .cells (eC (c.iP s)), .buf 1 0 (o ++ bl (c.jE s))]) := by
 refine au (C := cx [(96, me), (126, tu)]) (aq ⟨oy, AL, trivial⟩) (fn := Tryz.f107) rfl rfl rfl rfl fun hw hs => ?_
 obtain ⟨hp, ho, hs⟩ := hp
 have hb : c.ai.toNat < 256 := c.ai.toNat_lt
 have hbb : byte c.ai.toNat = c.ai := cg _
 repeat' ((conv => whnf); apply ak)
 all_goals try conv => whnf
 all_goals try (refine a9.mk ?_; try dsimp only)
 all_goals (try simp only [aK] at *)
 all_goals first | refine stay ?_ | trivial | skip
 refine aU.mk Nat (fun i => i ≤ s.length ∧ ∀ j, j < i → ¬ (c.has ∧ s.getD j 0 = c.ai)) (fun i => ⟨32, [(0, .ptr 0 0), (1, .str s), (5, bv c.ai), (6, .bool (decide (c.c = 0 ∧ c.p < c.e))), (17, .int .i64 s.length), (18, .int .i64 i)], [.cells [.ptr 1 0, .buf 2], .cells (eC c), .buf 1 0 o], []⟩) (fun i => s.length - i) [] 0 ⟨by omega, fun j hj => absurd hj (by omega)⟩ ?_ (fun i ⟨hi, hj⟩ _ _ => ?_)
 . refine Go.VG.Sub.mk rfl ?_ ?_ ?_ ?_ <;> (repeat' first | trivial)
 have hx : (s.getD i 0).toNat < 256 := UInt8.toNat_lt _
 have yes : c.has → c.ai = s.getD i 0 → i < s.length → c.ff s = true := fun h e hl => jh.2 ⟨h, by rw [e, List.getD_eq_getElem?_getD, List.getElem?_eq_getElem hl]; exact List.getElem_mem hl⟩
 have no : i = s.length → c.ff s = false := fun e => by
  cases q : c.ff s with
  | false => rfl
  | true =>
    obtain ⟨q1, q2⟩ := jh.1 q
    obtain ⟨j, hjl, hje⟩ := List.getElem_of_mem q2
    exact absurd ⟨q1, by rw [List.getD_eq_getElem?_getD, List.getElem?_eq_getElem hjl]; exact hje⟩ (hj j (by omega))
 have next : ¬ (c.has ∧ s.getD i 0 = c.ai) → ∀ j, j < i + 1 → ¬ (c.has ∧ s.getD j 0 = c.ai) := fun h j hjj => by
  by_cases e : j = i
  . subst e; exact h
  . exact hj j (by omega)
 repeat' ((conv => whnf); first | apply ak | (apply al <;> intro h) | with_reducible refine c8 ?_ fun hc => ?_)
 all_goals try conv => whnf
 all_goals try (refine a9.mk ?_; try dsimp only)
 all_goals (try simp only [aK] at *)
 all_goals first | refine stay ?_ | trivial | omega | skip
 all_goals (try simp only [hbb] at *)
 all_goals first
  | (refine ⟨[], i + 1, ⟨by omega, next fun h => ?_⟩, ?_, by omega⟩
     . first
       | exact absurd h.1 (by assumption)
       | (have := congrArg UInt8.toNat h.2; omega)
     . refine Go.VG.Sub.mk rfl ?_ ?_ ?_ ?_ <;> (repeat' first | trivial | apply ae | apply aI)
       all_goals (simp (discharger := omega) only [wR]; omega))
  | skip
 . have e := yes (by assumption) (UInt8.toNat_inj.1 (by omega)) (by omega)
   unfold Cu.iP Cu.jE
   rw [if_pos e, if_pos e, e]
   refine a8.mk [] ?_ <;> (repeat' first | trivial)
 . have e := no (by omega)
   unfold Cu.iP Cu.jE
   rw [e]
   refine a8.mk [] ?_ <;> (repeat' first | trivial | apply ae | apply br)
   simp [bl]
def wQ : Sm := fun args σ => match args, σ with
 | [.ptr 0 0, .str s], [.cells [.ptr 1 0, .buf 2], .cells ([.str s_c, .int .i64 (.ofNat a_c), .int .i64 (.ofNat e_c), .int .i64 c_c]), .buf 1 0 o] => some (True ∧ ((Cu.mk s_c a_c e_c c_c).ok ∧ o.length ≤ 2000000000 ∧ s.length ≤ 100), .bool ((Cu.mk s_c a_c e_c c_c).ff s), some [.cells [.ptr 1 0, .buf 2], .cells (eC ((Cu.mk s_c a_c e_c c_c).iP s)), .buf 1 0 (o ++ bl ((Cu.mk s_c a_c e_c c_c).jE s))])
 | _, _ => none
theorem I1 : aw 107 wQ := by
 intro args sg pre x r he hp
 unfold wQ at he
 split at he <;> cases he
 . rw [c7 (hp).1]; exact FJ (hp := hp.2) ..
theorem FH (c : Cu) (o : List V) (hp : c.ok ∧ o.length ≤ 1500000000 ∧ c.s.length ≤ 100000000) : OK 108 ([.ptr 0 0]) ([.cells [.ptr 1 0, .buf 2], .cells (eC c), .buf 1 0 o]) (.tuple []) (some [.cells [.ptr 1 0, .buf 2], .cells (eC c.aL.1), .buf 1 0 (o ++ bl c.aL.2)]) := by
 refine au (C := cx [(127, wO), (109, sY), (104, jt), (98, j7), (126, tu)]) (aq ⟨HZ, Az, kC, jQ, AL, trivial⟩) (fn := Tryz.f108) rfl rfl rfl rfl fun hw hs => ?_
 obtain ⟨hp, ho, hl⟩ := hp
 have h1 := hp.1
 have h2 := hp.2
 have hf := fh hp 3
 repeat' ((conv => whnf); first | apply ak | apply aW | (apply al <;> intro h))
 all_goals try conv => whnf
 all_goals try (refine a9.mk ?_; try dsimp only)
 all_goals (try simp only [aK] at *)
 all_goals first | refine stay ?_ | trivial | skip
 . have hd : aN c.ai = true := mD.2 (by assumption)
   have hh : c.has := by
    rcases Decidable.em c.has with q | q
    . exact q
    . rw [nz q] at hd; exact absurd hd (by decide)
   refine mm.mk (Nat × Cu × List UInt8) (fun | (n, d, s) => d.ok ∧ d.s = c.s ∧ d.has ∧ aN d.ai = true ∧ d.e - d.p ≤ n ∧ s.length ≤ d.p ∧ dC n d s = c.aL)
    (fun | (n, d, s) => ⟨25, [(0, .ptr 0 0)], [.cells [.ptr 1 0, .buf 2], .cells (eC d), .buf 1 0 (o ++ bl s)], [2]⟩) (fun x => x.1) [] (c.e - c.p, c, []) ⟨hp, rfl, hh, hd, Nat.le_refl _, by simp, by unfold Cu.aL; rw [if_pos hd]⟩ ?_ (fun ⟨n, d, s⟩ ⟨hd1, hd2, hd3, hd4, hd5, hd6, hd7⟩ _ _ => ?_)
   . refine Go.VG.Sub.mk rfl ?_ ?_ ?_ ?_ <;> (repeat' first | trivial | apply ae | apply br)
     simp [bl]
   have hsl : d.s.length ≤ 100000000 := by rw [hd2]; exact hl
   have e1 := hd1.1
   have e2 := hd1.2
   have e3 : d.c = 0 := hd3.1
   have e4 : d.p < d.e := hd3.2
   have hb1 := jZ hd1 1
   have hb : d.byte.ok := hb1.1
   obtain ⟨b1, _⟩ := fz e3 e4
   have hbp : d.byte.p = d.p + 1 := by rw [b1]
   have hbe : d.byte.e = d.e := by rw [b1]
   have hbl := iA s
   obtain ⟨n, rfl⟩ : ∃ m, n = m + 1 := ⟨n - 1, by omega⟩
   rw [dC] at hd7
   repeat' ((conv => whnf); first | apply ak | (apply al <;> intro h))
   all_goals try conv => whnf
   all_goals try (refine a9.mk ?_; try dsimp only)
   all_goals (try simp only [aK] at *)
   all_goals first | refine stay ?_ | trivial | skip
   . exact ⟨trivial, hd1, by rw [List.length_append]; omega⟩
   . have q := mD.2 (by assumption)
     rw [if_pos q] at hd7
     have q2 : d.byte.has := by
      rcases Decidable.em d.byte.has with r | r
      . exact r
      . rw [nz r] at q; exact absurd q (by decide)
     refine ⟨[], (n, d.byte, s ++ [d.ai]), ⟨hb, hb1.2.1.trans hd2, q2, q, by rw [hbe, hbp]; omega, by rw [List.length_append, List.length_singleton, hbp]; omega, hd7⟩, ?_, by show n < n + 1; omega⟩
     refine Go.VG.Sub.mk rfl ?_ ?_ ?_ ?_ <;> (repeat' first | trivial | apply ae | apply br)
     rw [jC, List.append_assoc]
   . have q := nD.2 (by assumption)
     rw [if_neg (by rw [q]; decide)] at hd7
     rw [← hd7]
     refine a8.mk [] ?_ <;> (repeat' first | trivial | apply ae | apply br)
     rw [jC, List.append_assoc]
 . exact ⟨trivial, hf.1⟩
 . have q1 := nD.2 (by assumption)
   unfold Cu.aL
   rw [if_neg (by rw [q1]; decide), if_pos (by assumption)]
   refine a8.mk [] ?_ <;> (repeat' first | trivial | apply ae | apply br)
   simp [bl]
 . have q1 := nD.2 (by assumption)
   unfold Cu.aL
   rw [if_neg (by rw [q1]; decide), if_neg (by assumption)]
   refine a8.mk [] ?_ <;> (repeat' first | trivial | apply ae | apply br)
   simp [bl]
def wP : Sm := fun args σ => match args, σ with
 | [.ptr 0 0], [.cells [.ptr 1 0, .buf 2], .cells ([.str s_c, .int .i64 (.ofNat a_c), .int .i64 (.ofNat e_c), .int .i64 c_c]), .buf 1 0 o] => some (True ∧ ((Cu.mk s_c a_c e_c c_c).ok ∧ o.length ≤ 1500000000 ∧ (Cu.mk s_c a_c e_c c_c).s.length ≤ 100000000), .tuple [], some [.cells [.ptr 1 0, .buf 2], .cells (eC (Cu.mk s_c a_c e_c c_c).aL.1), .buf 1 0 (o ++ bl (Cu.mk s_c a_c e_c c_c).aL.2)])
 | _, _ => none
theorem I0 : aw 108 wP := by
 intro args sg pre x r he hp
 unfold wP at he
 split at he <;> cases he
 . rw [c7 (hp).1]; exact FH (hp := hp.2) ..
def Gd (c d : Cu) : Prop := d.ok ∧ d.s = c.s
theorem Gd.self {c : Cu} (h : c.ok) : Gd c c := ⟨h, rfl⟩
theorem Gd.dn {c d : Cu} {s : List UInt8} (h : Gd c d) : Gd c (d.iP s) := ⟨(zq h.1 s).1, (zq h.1 s).2.1.trans h.2⟩
theorem Gd.aL {c d : Cu} (h : Gd c d) : Gd c d.aL.1 := ⟨(ur h.1).1, (ur h.1).2.1.trans h.2⟩
def Lb (c : Cu) (o : List V) (n : Nat) (l : List V) : Prop := l.length ≤ o.length + n * 100000001
theorem Lb.base {c : Cu} {o : List V} {n : Nat} : Lb c o n o := by unfold Lb; omega
theorem Lb.dn {c d : Cu} {o l : List V} {n : Nat} {s : List UInt8} (h : Lb c o n l) : Lb c o (n + 1) (l ++ bl (d.jE s)) := by
 have := Eh d s
 unfold Lb at h ⊢
 rw [List.length_append, iA]; omega
theorem Lb.aL {c d : Cu} {o l : List V} {n : Nat} (hl : c.s.length ≤ 100000000) (hd : Gd c d) (h : Lb c o n l) : Lb c o (n + 1) (l ++ bl d.aL.2) := by
 have h1 := (ur hd.1).2.2.2
 have h2 := hd.1.2
 rw [hd.2] at h2
 unfold Lb at h ⊢
 rw [List.length_append, iA]; omega
theorem Lb.fin {c : Cu} {o l : List V} (h : Lb c o 9 l) (ho : o.length ≤ 500000000) : l.length ≤ 1500000000 := by unfold Lb at h; omega
theorem AZ {n : Nat} (h : n ≤ 1500000000) : n ≤ 2000000000 := by omega
theorem Gd.aq {c d : Cu} (h : Gd c d) : d.ok := h.1
theorem FK (c : Cu) (o : List V) (hp : c.ok ∧ o.length ≤ 500000000 ∧ c.s.length ≤ 100000000) : OK 76 ([.ptr 0 0]) ([.cells [.ptr 1 0, .buf 2], .cells (eC c), .buf 1 0 o]) (.tuple []) (some [.cells [.ptr 1 0, .buf 2], .cells (eC c.fD.1), .buf 1 0 (o ++ bl c.fD.2)]) := by
 refine au (C := cx [(107, wQ), (108, wP)]) (aq ⟨I1, I0, trivial⟩) (fn := Tryz.f76) rfl rfl rfl rfl fun hw hs => ?_
 obtain ⟨hp, ho, hl⟩ := hp
 have gs : ∀ {d : Cu}, Gd c d → d.s.length ≤ 100000000 := fun h => by rw [h.2]; exact hl
 repeat' ((conv => whnf); first | apply ak | apply aW | (apply al <;> intro h))
 all_goals try conv => whnf
 all_goals try (refine a9.mk ?_; try dsimp only)
 all_goals (try simp only [aK] at *)
 all_goals try refine stay ?_
 all_goals first
  | (refine (show True ∧ _ ∧ _ ∧ _ from ⟨trivial, ?_, ?_, ?_⟩) <;> first
   | decide
   | (refine Gd.aq (c := c) ?_
      repeat' (first | exact Gd.self hp | refine Gd.dn ?_ | refine Gd.aL ?_)
      done)
   | (refine gs ?_
      repeat' (first | exact Gd.self hp | refine Gd.dn ?_ | refine Gd.aL ?_)
      done)
   | (first | refine AZ (Lb.fin (c := c) (o := o) ?_ ho) | refine Lb.fin (c := c) (o := o) ?_ ho
      repeat' (first | exact Lb.base | refine Lb.dn ?_ | refine Lb.aL hl ?_ ?_ | exact Gd.self hp | refine Gd.dn ?_ | refine Gd.aL ?_ | decide)
      done))
  | (refine (show True ∧ _ ∧ _ from ⟨trivial, ?_, ?_⟩) <;> first
   | (refine Gd.aq (c := c) ?_
      repeat' (first | exact Gd.self hp | refine Gd.dn ?_ | refine Gd.aL ?_)
      done)
   | (first | refine AZ (Lb.fin (c := c) (o := o) ?_ ho) | refine Lb.fin (c := c) (o := o) ?_ ho
      repeat' (first | exact Lb.base | refine Lb.dn ?_ | refine Lb.aL hl ?_ ?_ | exact Gd.self hp | refine Gd.dn ?_ | refine Gd.aL ?_ | decide)
      done))
  | skip
 all_goals
  unfold Cu.fD CO.whole
  first | rw [if_pos (jh.2 (by assumption))] | rw [if_neg (fun h => absurd (jh.1 h) (by assumption))]
  unfold CO.behind
  first | rw [if_pos (jh.2 (by assumption))] | rw [if_neg (fun h => absurd (jh.1 h) (by assumption))]
  unfold CO.m6
  first | rw [if_pos (jh.2 (by assumption))] | rw [if_neg (fun h => absurd (jh.1 h) (by assumption))]
  refine a8.mk [] ?_ <;> (repeat' first | trivial | apply ae | apply br)
  all_goals (simp only [CO.dn, CO.aL, jC, List.append_assoc, List.nil_append]; done)
def tq : Sm := fun args σ => match args, σ with
 | [.ptr 0 0], [.cells [.ptr 1 0, .buf 2], .cells ([.str s_c, .int .i64 (.ofNat a_c), .int .i64 (.ofNat e_c), .int .i64 c_c]), .buf 1 0 o] => some (True ∧ ((Cu.mk s_c a_c e_c c_c).ok ∧ o.length ≤ 500000000 ∧ (Cu.mk s_c a_c e_c c_c).s.length ≤ 100000000), .tuple [], some [.cells [.ptr 1 0, .buf 2], .cells (eC (Cu.mk s_c a_c e_c c_c).fD.1), .buf 1 0 (o ++ bl (Cu.mk s_c a_c e_c c_c).fD.2)])
 | _, _ => none
theorem AK : aw 76 tq := by
 intro args sg pre x r he hp
 unfold tq at he
 split at he <;> cases he
 . rw [c7 (hp).1]; exact FK (hp := hp.2) ..
end Go.Proofs.YtllncocibkgjkaaGreat
