/-
  A part of the proof.
-/
import Derived.Test.YtdjolnjlhbfnmaaGreatDoorMWe
set_option linter.unusedSimpArgs false
set_option linter.unusedVariables false
set_option maxHeartbeats 4000000
namespace Go.Proofs.YtdjolnjlhbfnmaaGreatDoor
open Go Go.VG
set_option maxRecDepth 100000
theorem J2 (l : List V) (f : Pf) (hp : (f.wi = 0 ∨ f.wi = 2) ∧ l.length ≤ 800000000 ∧ f.text.length ≤ 1000000000) : OK 189 ([.buf 0, av f]) ([.buf 1 0 l]) (.buf 1) (some [.buf 1 0 l, .buf 1 0 (l ++ bl (dy f))]) := by
 refine al (C := cx [(183, sI), (44, ju), (182, oM)]) (aq ⟨wQ, kK, rE, trivial⟩) (fn := Tryz.f189) rfl rfl rfl rfl fun hw hs => ?_
 have hn : 0 ≤ f.num ∧ f.num ≤ 18446744073709551615 := hw.2.1.2.2.1
 have ht := qD f.no f.wi
 have h4 := iZ (u := f.text.length) (by omega)
 have hwt : IntKind.u64.wrap (f.text.length : Int) = f.text.length := by rw [db]; omega
 have h5 : 0 ≤ IntKind.u32.wrap f.num ∧ IntKind.u32.wrap f.num ≤ 4294967295 := by rw [qI]; omega
 have h6 : low 4 (IntKind.u32.wrap f.num).toNat = low 4 f.num.toNat := by
  rw [← CV 4 f.num.toNat, show (IntKind.u32.wrap f.num).toNat = f.num.toNat % 256 ^ 4 by rw [qI, show 256 ^ 4 = 4294967296 by decide]; omega]
 have hl6 : (l ++ bl (cN f.no f.wi)).length ≤ 2000000000 := by rw [List.length_append, eY]; omega
 obtain ⟨hw0, hp⟩ := hp
 repeat' ((conv => whnf); first | apply aj | apply aO | (apply aw <;> intro h))
 all_goals try conv => whnf
 all_goals try (refine ae.mk ?_; try dsimp only)
 all_goals (try simp only [hwt, Int.toNat_natCast, h6] at *)
 all_goals first | refine stay ?_ | trivial | omega | (simp only [cL]; omega) | skip
 all_goals
  first
  | exact ⟨h5, hl6⟩
  | (exfalso; omega)
  | skip
 all_goals
  have hf : dy f = dy f := rfl
  conv at hf => rhs; unfold dy qX
  first
  | (have hm : bD f.no f.wi = true := decide_eq_true (by assumption)
     rw [if_pos hm] at hf
     repeat (first | rw [if_pos (by assumption)] at hf | rw [if_neg (by assumption)] at hf)
     show af _ _ _ _ _ _
     rw [hf]
     (refine af.mk [.swap 1 4] ?_ <;> (repeat' first | trivial | rfl | exact eN _ _ | apply ax | apply dn | apply aH | apply cR | apply bo | apply cS | apply cU | apply cZ | apply cJ | apply bE))
     all_goals
      first | skip
      simp only [h6, dF, List.append_assoc]
     done)
  | (have hm : bD f.no f.wi = false := decide_eq_false (by assumption)
     have hg : cN f.no f.wi = [] := by unfold cN; rw [hm, if_neg Bool.false_ne_true]
     rw [hm, if_neg Bool.false_ne_true] at hf
     rw [hf, hg]
     (refine af.mk [.swap 1 3] ?_ <;> (repeat' first | trivial | rfl | exact eN _ _ | apply ax | apply dn | apply aH | apply cR | apply bo | apply cS | apply cU | apply cZ | apply cJ | apply bE))
     done)
def yQ : Sm := fun args σ => match args, σ with
 | [.buf 0, .agg [.int .i64 n_f, .int .i64 w_f, .int .u64 u_f, .str t_f]], [.buf 1 0 l] => some (True ∧ (((Pf.mk n_f w_f u_f t_f).wi = 0 ∨ (Pf.mk n_f w_f u_f t_f).wi = 2) ∧ l.length ≤ 800000000 ∧ (Pf.mk n_f w_f u_f t_f).text.length ≤ 1000000000), .buf 1, some [.buf 1 0 l, .buf 1 0 (l ++ bl (dy (Pf.mk n_f w_f u_f t_f)))])
 | _, _ => none
theorem LP : au 189 yQ := by
 intro args sg pre x r he hp
 unfold yQ at he
 split at he <;> cases he
 . rw [iY (hp).1]; exact J2 (hp := hp.2) ..
theorem HF (l : List V) (f : Pf) (hp : (f.wi = 0 ∨ f.wi = 2) ∧ l.length ≤ 800000000 ∧ f.text.length ≤ 1000000000) : OK 187 ([av f, .buf 0]) ([.buf 1 0 l]) (.buf 1) (some [.buf 1 0 l, .buf 1 0 (l ++ bl (dy f))]) := by
 refine al (C := cx [(189, yQ)]) (aq ⟨LP, trivial⟩) (fn := Tryz.f187) rfl rfl rfl rfl fun hw hs => ?_
 repeat' ((conv => whnf); apply aj)
 all_goals try conv => whnf
 all_goals try (refine ae.mk ?_; try dsimp only)
 . exact ⟨trivial, hp⟩
 . refine af.mk [.swap 1 2] ?_ <;> (repeat' first | trivial)
def uQ : Sm := fun args σ => match args, σ with
 | [.agg [.int .i64 n_f, .int .i64 w_f, .int .u64 u_f, .str t_f], .buf 0], [.buf 1 0 l] => some (True ∧ (((Pf.mk n_f w_f u_f t_f).wi = 0 ∨ (Pf.mk n_f w_f u_f t_f).wi = 2) ∧ l.length ≤ 800000000 ∧ (Pf.mk n_f w_f u_f t_f).text.length ≤ 1000000000), .buf 1, some [.buf 1 0 l, .buf 1 0 (l ++ bl (dy (Pf.mk n_f w_f u_f t_f)))])
 | _, _ => none
theorem Ce : au 187 uQ := by
 intro args sg pre x r he hp
 unfold uQ at he
 split at he <;> cases he
 . rw [iY (hp).1]; exact HF (hp := hp.2) ..
mutual
def pB : V → List UInt8
 | .iface _ x => qB x
 | _ => []
def qB : V → List UInt8
 | .agg [.int _ no, .int _ wi, .int _ u, .str t] => dy ⟨no, wi, u, t⟩
 | .agg [.int _ no, .int _ _, x, .int _ n] => cN no 2 ++ (cm n.toNat ++ xB x)
 | _ => []
def xB : V → List UInt8
 | .box [.list _ _ l, _] _ => bf l
 | _ => []
def bf : List V → List UInt8
 | [] => []
 | v :: l => pB v ++ bf l
end
abbrev eIn (c : Bool) (no : Int) (l : List V) (n : Int) : V := .agg [.int .i64 no, .int .i64 2, .box [.list c 1 l, .int .i64 n] 0, .int .i64 n]
theorem xu (f : Pf) : pB (.iface 243 (av f)) = dy f := by simp only [pB, qB, av]
theorem Dm (c : Bool) (no : Int) (l : List V) (n : Int) : pB (.iface 116 (eIn c no l n)) = cN no 2 ++ (cm n.toNat ++ bf l) := by simp only [pB, qB, xB, eIn]
theorem jm : bf [] = [] := by simp only [bf]
theorem oG (v : V) (l : List V) : bf (v :: l) = pB v ++ bf l := by simp only [bf]
inductive cQ : Nat → V → Prop
 | fld (d : Nat) (f : Pf) (ht : f.text.length ≤ 1000000) (hw : f.wi = 0 ∨ f.wi = 2) : cQ d (.iface 243 (av f))
 | sub (d : Nat) (c : Bool) (no : Int) (l : List V) (n : Nat) (hn : n = (bf l).length) (h9 : n ≤ 100000000) (hl : l.length ≤ 1000000) (h : ∀ v ∈ l, cQ d v) : cQ (d + 1) (.iface 116 (eIn c no l n))
theorem xC {l : List V} {i : Nat} (h : i < l.length) : bf (l.take (i + 1)) = bf (l.take i) ++ pB (l.getD i default) := by
 induction l generalizing i with
 | nil => simp at h
 | cons v l ih =>
   cases i with
   | zero => rw [List.take_succ_cons, List.take_zero, List.take_zero, oG, jm, List.append_nil]; rfl
   | succ i =>
     rw [List.take_succ_cons, List.take_succ_cons, oG, oG, ih (by simpa using h), List.append_assoc]; rfl
theorem ql (l k : List V) : bf (l ++ k) = bf l ++ bf k := by
 induction l with
 | nil => rw [jm]; rfl
 | cons v l ih => rw [List.cons_append, oG, oG, ih, List.append_assoc]
theorem DC (l : List V) (i : Nat) : (bf (l.take i)).length ≤ (bf l).length := by
 have e := ql (l.take i) (l.drop i)
 rw [List.take_append_drop] at e
 rw [e, List.length_append]; omega
def sw (d : Nat) : Sm := fun args σ => match args, σ with
 | [.box [.list _ 1 (v :: l), .int .i64 _] 0, .buf 0], [.buf 1 0 b] => some ((∀ x ∈ (v :: l), cQ d x) ∧ (v :: l).length ≤ 1000000 ∧ b.length + (bf (v :: l)).length ≤ 500000000, .buf 1, some [.buf 1 0 b, .buf 1 0 (b ++ bl (bf (v :: l)))])
 | [.box [.list _ 1 [], .int .i64 _] 0, .buf 0], [.buf 1 0 b] => some (True, .buf 0, some [.buf 1 0 b])
 | _, _ => none
def y8 (d : Nat) : Sm := fun args σ => match args, σ with
 | [.agg [.int .i64 no, .int .i64 2, .box [.list _ 1 l, .int .i64 m] 0, .int .i64 (.ofNat n)], .buf 0], [.buf 1 0 b] => some (m = n ∧ (∀ x ∈ l, cQ d x) ∧ l.length ≤ 1000000 ∧ b.length + (cN no 2 ++ (cm n ++ bf l)).length ≤ 500000000 ∧ n ≤ 100000000, .buf 1, some [.buf 1 0 b, .buf 1 0 (b ++ bl (cN no 2 ++ (cm n ++ bf l)))])
 | _, _ => none
theorem k_inL (d : Nat) (hB : au 49 (sw d)) : au 180 (y8 d) := by
 intro args sg pre x r he hp
 unfold y8 at he
 split at he <;> cases he
 rename_i no c l m n b
 obtain ⟨rfl, h1, h2, h3, h5⟩ := hp
 rw [List.length_append, List.length_append] at h3
 have ht := qD no 2
 have hv := iZ (u := n) (by omega)
 have hw2 : IntKind.u64.wrap (n : Int) = n := by rw [db]; omega
 have hw3 : IntKind.u64.wrap (Int.ofNat n) = (n : Int) := hw2
 cases l with
 | nil =>
   rw [jm, List.append_nil]
   refine al (C := cx [(183, sI), (182, oM), (49, sw d)]) (aq ⟨wQ, rE, hB, trivial⟩) (fn := Tryz.f180) rfl rfl rfl rfl fun hw _ => ?_
   repeat' ((conv => whnf); apply aj)
   all_goals try conv => whnf
   all_goals try (refine ae.mk ?_; try dsimp only)
   all_goals (try simp only [hw2, hw3, Int.toNat_natCast] at *)
   . omega
   . exact ⟨by omega, by rw [List.length_append, eY]; omega⟩
   . refine af.mk [.swap 1 3] ?_ <;> (repeat' first | trivial | apply ax | apply bo)
     simp only [dF, List.append_assoc]
 | cons v l =>
   refine al (C := cx [(183, sI), (182, oM), (49, sw d)]) (aq ⟨wQ, rE, hB, trivial⟩) (fn := Tryz.f180) rfl rfl rfl rfl fun hw _ => ?_
   repeat' ((conv => whnf); apply aj)
   all_goals try conv => whnf
   all_goals try (refine ae.mk ?_; try dsimp only)
   all_goals (try simp only [hw2, hw3, Int.toNat_natCast] at *)
   . omega
   . exact ⟨by omega, by rw [List.length_append, eY]; omega⟩
   . exact ⟨h1, h2, by simp only [List.length_append, eY]; omega⟩
   . refine af.mk [.swap 1 4] ?_ <;> (repeat' first | trivial | apply ax | apply bo)
     simp only [dF, List.append_assoc]
end Go.Proofs.YtdjolnjlhbfnmaaGreatDoor
namespace Go.Proofs.YtdjolnjlhbfnmaaGreatDoor
open Go Go.VG
set_option maxRecDepth 100000
theorem Dz {l : List V} {b : List V} {B : Nat} (h : b.length + (bf l).length ≤ B) (i : Nat) : (b ++ bl (bf (l.take i))).length ≤ B := by
 have := DC l i
 rw [List.length_append, eY]; omega
theorem DA {l : List V} {b : List V} {B : Nat} (h : b.length + (bf l).length ≤ B) {i : Nat} (hi : i < l.length) : (b ++ bl (bf (l.take i))).length + (pB (l.getD i default)).length ≤ B := by
 have := DC l (i + 1)
 rw [xC hi, List.length_append] at this
 rw [List.length_append, eY]; omega
theorem N5 {d : Nat} {v : V} (h : cQ (d + 1) v) : (∃ f : Pf, v = .iface 243 (av f) ∧ f.text.length ≤ 1000000 ∧ (f.wi = 0 ∨ f.wi = 2) ∧ pB v = dy f) ∨
   (∃ (c : Bool) (no : Int) (l : List V) (n : Nat), v = .iface 116 (eIn c no l n) ∧ n = (bf l).length ∧ n ≤ 100000000 ∧ l.length ≤ 1000000 ∧ (∀ x ∈ l, cQ d x) ∧ pB v = cN no 2 ++ (cm n ++ bf l)) := by
 cases h with
 | fld _ f ht hw => exact .inl ⟨f, rfl, ht, hw, xu f⟩
 | sub _ c no l n hn h9 hl h => exact .inr ⟨c, no, l, n, rfl, hn, h9, hl, h, by rw [Dm, Int.toNat_natCast]⟩
theorem N6 {v : V} (h : cQ 0 v) : ∃ f : Pf, v = .iface 243 (av f) ∧ f.text.length ≤ 1000000 ∧ (f.wi = 0 ∨ f.wi = 2) ∧ pB v = dy f := by
 cases h with
 | fld _ f ht hw => exact ⟨f, rfl, ht, hw, xu f⟩
theorem ry {l : List V} {n : Nat} {K : V → Prop} (h1 : ae (n < l.length)) (h2 : K (l.getD n default)) : ez l n K :=
 pI h1 fun a ha => by rw [List.getD_eq_getElem?_getD, ha] at h2; exact h2
theorem pM {l : List V} {n : Nat} {K : V → Prop} (h1 : ae (n < l.length)) (h2 : K (l.getD n default)) : ez l (n : Int).toNat K := ry h1 h2
structure Pc (d : Nat) (v : V) : Prop where
 c : (∃ f : Pf, v = .iface 243 (av f) ∧ f.text.length ≤ 1000000 ∧ (f.wi = 0 ∨ f.wi = 2) ∧ pB v = dy f) ∨
  (d ≠ 0 ∧ ∃ (c : Bool) (no : Int) (l : List V) (n : Nat), v = .iface 116 (eIn c no l n) ∧ n = (bf l).length ∧ n ≤ 100000000 ∧ l.length ≤ 1000000 ∧ (∀ x ∈ l, cQ (d - 1) x) ∧ pB v = cN no 2 ++ (cm n ++ bf l))
theorem pc {d : Nat} {v : V} (h : cQ d v) : Pc d v := by
 cases d with
 | zero => exact ⟨.inl (N6 h)⟩
 | succ d => exact ⟨(N5 h).imp id fun q => ⟨by omega, q⟩⟩
def inS : Nat → Sm
 | 0 => sm0
 | d + 1 => y8 d
theorem H8 (d : Nat) (hS : au 180 (inS d)) (c : Bool) (n : Int) (l : List V) (b : List V) (h0 : 0 < l.length) (hP : ∀ v ∈ l, cQ d v) (h9 : l.length ≤ 1000000) (hb : b.length + (bf l).length ≤ 500000000) :
    OK 49 [.box [.list c 1 l, .int .i64 n] 0, .buf 0] [.buf 1 0 b] (.buf 1) (some [.buf 1 0 b, .buf 1 0 (b ++ bl (bf l))]) := by
  refine al (C := cxz [(187, uQ), (180, inS d)] []) (tN ⟨Ce, hS, trivial⟩) (fn := Tryz.f49) rfl rfl rfl rfl fun hw _ => ?_
  all_goals try conv => whnf
  all_goals try (refine ae.mk ?_; try dsimp only)
  refine aT.mk Nat (fun i => i ≤ l.length) (fun i => if i = 0 then ⟨21, [(1, .buf 0), (10, .list c 1 l), (11, .int .i64 l.length), (12, .int .i64 0)], [.buf 1 0 b], []⟩ else ⟨21, [(1, .buf 1), (10, .list c 1 l), (11, .int .i64 l.length), (12, .int .i64 i)], [.buf 1 0 b, .buf 1 0 (b ++ bl (bf (l.take i)))], [0, 1, 2]⟩) (fun i => l.length - i) [] 0 (Nat.zero_le _) ?_ (fun i hi _ _ => ?_)
  . rw [if_pos rfl]
    refine Go.VG.Sub.mk rfl ?_ ?_ ?_ ?_ <;> (repeat' first | trivial)
  have hm : i < l.length → cQ d (l.getD i default) := fun h => hP _ (by rw [List.getD_eq_getElem?_getD, List.getElem?_eq_getElem h]; exact List.getElem_mem h)
  have hli := Dz hb i
  have hlp := fun h => DA (i := i) hb h
  have hnx := fun h => xC (l := l) (i := i) h
  by_cases hi0 : i = 0
  . subst hi0
    rw [if_pos rfl]
    have hlt := h0
    have hlp := hlp h0
    have hb9 : (b ++ bl (bf (l.take 0))).length = b.length := by rw [List.take_zero, jm]; exact congrArg List.length (List.append_nil b)
    have hnx : bf (l.take 1) = pB (l.getD 0 default) := by
     have := hnx h0
     rw [List.take_zero, jm] at this
     exact this
    have hwr : IntKind.i64.wrap 1 = ((1 : Nat) : Int) := by decide
    rcases (pc (hm hlt)).c with ⟨f, hx, ht, hwi, hpb⟩ | ⟨hd0, c', no, k, m, hx, hk1, hk2, hk3, hk4, hpb⟩
    . repeat' ((conv => whnf); first | apply aj | apply iN | (apply aw <;> intro h) | with_reducible refine ry ?_ ?_)
      all_goals try conv => whnf
      all_goals try (refine ae.mk ?_; try dsimp only)
      all_goals (try rw [show Int.toNat 0 = 0 from rfl])
      all_goals (try rw [hx])
      . omega
      . exact hlt
      . rfl
      . all_goals try conv => whnf
        all_goals try (refine ae.mk ?_; try dsimp only)
        refine ⟨187, by show eQ _ _ _; unfold eQ; simp, ?_⟩
        repeat' ((conv => whnf); apply aj)
        all_goals try conv => whnf
        all_goals try (refine ae.mk ?_; try dsimp only)
        . exact ⟨by first | trivial | rfl, hwi, by omega, by omega⟩
        . refine ⟨[], 1, by omega, ?_, by omega⟩
          rw [if_neg (by omega), hnx, hpb]
          refine Go.VG.Sub.mk rfl ?_ ?_ ?_ ?_ <;> (repeat' first | trivial)
          all_goals first
           | exact hwr
           | (simp only [dF, List.append_assoc]; done)
           | skip
      . exfalso; omega
    . obtain ⟨d, rfl⟩ : ∃ e, d = e + 1 := ⟨d - 1, by omega⟩
      repeat' ((conv => whnf); first | apply aj | apply iN | (apply aw <;> intro h) | with_reducible refine ry ?_ ?_)
      all_goals try conv => whnf
      all_goals try (refine ae.mk ?_; try dsimp only)
      all_goals (try rw [show Int.toNat 0 = 0 from rfl])
      all_goals (try rw [hx])
      . omega
      . exact hlt
      . rfl
      . all_goals try conv => whnf
        all_goals try (refine ae.mk ?_; try dsimp only)
        refine ⟨180, by show eQ _ _ _; unfold eQ; simp, ?_⟩
        repeat' ((conv => whnf); apply aj)
        all_goals try conv => whnf
        all_goals try (refine ae.mk ?_; try dsimp only)
        . exact ⟨by first | trivial | rfl, hk4, hk3, by rw [← hpb]; omega, by omega⟩
        . refine ⟨[], 1, by omega, ?_, by omega⟩
          rw [if_neg (by omega), hnx, hpb]
          refine Go.VG.Sub.mk rfl ?_ ?_ ?_ ?_ <;> (repeat' first | trivial)
          all_goals first
           | exact hwr
           | (simp only [dF, List.append_assoc]; done)
           | skip
      . exfalso; omega
  rw [if_neg hi0]
  by_cases hi2 : i = l.length
  . subst hi2
    rw [List.take_length]
    repeat' ((conv => whnf); first | apply aj | apply iN | (apply aw <;> intro h) | with_reducible refine pM ?_ ?_)
    all_goals try conv => whnf
    all_goals try (refine ae.mk ?_; try dsimp only)
    all_goals first
     | (exfalso; omega)
     | skip
    refine af.mk [] ?_ <;> (repeat' first | trivial)
  have hlt : i < l.length := by omega
  have hlp := hlp hlt
  have hnx := hnx hlt
  have hwr : IntKind.i64.wrap ((i : Int) + 1) = ((i + 1 : Nat) : Int) := by rw [bc]; omega
  rcases (pc (hm hlt)).c with ⟨f, hx, ht, hwi, hpb⟩ | ⟨hd0, c', no, k, m, hx, hk1, hk2, hk3, hk4, hpb⟩
  . repeat' ((conv => whnf); first | apply aj | apply iN | (apply aw <;> intro h) | with_reducible refine pM ?_ ?_)
    all_goals try conv => whnf
    all_goals try (refine ae.mk ?_; try dsimp only)
    all_goals (try rw [show Int.toNat 0 = 0 from rfl])
    all_goals (try rw [hx])
    . omega
    . exact hlt
    . rfl
    . all_goals try conv => whnf
      all_goals try (refine ae.mk ?_; try dsimp only)
      refine ⟨187, by show eQ _ _ _; unfold eQ; simp, ?_⟩
      repeat' ((conv => whnf); apply aj)
      all_goals try conv => whnf
      all_goals try (refine ae.mk ?_; try dsimp only)
      . exact ⟨by first | trivial | rfl, hwi, by omega, by omega⟩
      . refine ⟨[.swap 1 2], i + 1, by omega, ?_, by omega⟩
        rw [if_neg (by omega), hnx, hpb]
        refine Go.VG.Sub.mk rfl ?_ ?_ ?_ ?_ <;> (repeat' first | trivial | apply ax | apply aH | apply bo)
        all_goals first
         | exact hwr
         | (simp only [dF, List.append_assoc]; done)
         | skip
    . exfalso; omega
  . obtain ⟨d, rfl⟩ : ∃ e, d = e + 1 := ⟨d - 1, by omega⟩
    repeat' ((conv => whnf); first | apply aj | apply iN | (apply aw <;> intro h) | with_reducible refine pM ?_ ?_)
    all_goals try conv => whnf
    all_goals try (refine ae.mk ?_; try dsimp only)
    all_goals (try rw [show Int.toNat 0 = 0 from rfl])
    all_goals (try rw [hx])
    . omega
    . exact hlt
    . rfl
    . all_goals try conv => whnf
      all_goals try (refine ae.mk ?_; try dsimp only)
      refine ⟨180, by show eQ _ _ _; unfold eQ; simp, ?_⟩
      repeat' ((conv => whnf); apply aj)
      all_goals try conv => whnf
      all_goals try (refine ae.mk ?_; try dsimp only)
      . exact ⟨by first | trivial | rfl, hk4, hk3, by rw [← hpb]; omega, by omega⟩
      . refine ⟨[.swap 1 2], i + 1, by omega, ?_, by omega⟩
        rw [if_neg (by omega), hnx, hpb]
        refine Go.VG.Sub.mk rfl ?_ ?_ ?_ ?_ <;> (repeat' first | trivial | apply ax | apply aH | apply bo)
        all_goals first
         | exact hwr
         | (simp only [dF, List.append_assoc]; done)
         | skip
    . exfalso; omega
theorem HG (c : Bool) (b : List V) (n : Int) (hp : True) : OK 49 ([.box [.list c 1 [], .int .i64 n] 0, .buf 0]) ([.buf 1 0 b]) (.buf 0) (some [.buf 1 0 b]) := by
 refine al (C := cx []) (aq trivial) (fn := Tryz.f49) rfl rfl rfl rfl fun hw hs => ?_
 all_goals try conv => whnf
 all_goals try (refine ae.mk ?_; try dsimp only)
 refine aT.mk Nat (fun i => i = 0) (fun _ => ⟨21, [(1, .buf 0), (10, .list c 1 []), (11, .int .i64 0), (12, .int .i64 0)], [.buf 1 0 b], []⟩) (fun _ => 0) [] 0 rfl ?_ (fun i hi _ _ => ?_)
 . refine Go.VG.Sub.mk rfl ?_ ?_ ?_ ?_ <;> (repeat' first | trivial)
 all_goals try conv => whnf
 all_goals try (refine ae.mk ?_; try dsimp only)
 refine af.mk [] ?_ <;> (repeat' first | trivial)
theorem HH (q : Nat) (b : List V) (n : Int) (hp : True) : OK 49 ([.ptr 0 0, .buf 1]) ([.cells [.buf 2, .int .i64 n], .buf 1 0 b, .buf 1 q []]) (.buf 1) (some [.cells [.buf 2, .int .i64 n], .buf 1 0 b, .buf 1 q []]) := by
 refine al (C := cx []) (aq trivial) (fn := Tryz.f49) rfl rfl rfl rfl fun hw hs => ?_
 all_goals try conv => whnf
 all_goals try (refine ae.mk ?_; try dsimp only)
 refine aT.mk Nat (fun i => i = 0) (fun _ => ⟨21, [(1, .buf 1), (10, .buf 2), (11, .int .i64 0), (12, .int .i64 0)], [.cells [.buf 2, .int .i64 n], .buf 1 0 b, .buf 1 q []], []⟩) (fun _ => 0) [] 0 rfl ?_ (fun i hi _ _ => ?_)
 . refine Go.VG.Sub.mk rfl ?_ ?_ ?_ ?_ <;> (repeat' first | trivial)
 all_goals try conv => whnf
 all_goals try (refine ae.mk ?_; try dsimp only)
 refine af.mk [] ?_ <;> (repeat' first | trivial)
def sm_mxN : Sm := fun args σ => match args, σ with
 | [.box [.list c 1 [], .int .i64 n] 0, .buf 0], [.buf 1 0 b] => some (True, .buf 0, some [.buf 1 0 b])
 | [.ptr 0 0, .buf 1], [.cells [.buf 2, .int .i64 n], .buf 1 0 b, .buf 1 q []] => some (True, .buf 1, some [.cells [.buf 2, .int .i64 n], .buf 1 0 b, .buf 1 q []])
 | _, _ => none
theorem L6 (d : Nat) (hS : au 180 (inS d)) : au 49 (sw d) := by
 intro args sg pre x r he hp
 unfold sw at he
 split at he <;> cases he
 . exact H8 d hS _ _ _ _ (Nat.succ_pos _) hp.1 hp.2.1 hp.2.2
 . exact HG _ _ _ trivial
theorem Ca : ∀ d, au 180 (inS d)
 | 0 => Ep
 | d + 1 => k_inL d (L6 d (Ca d))
theorem JD (d : Nat) (n : Int) (q : Nat) (l : List V) (b : List V) (h0 : 0 < l.length) (hP : ∀ v ∈ l, cQ d v) (h9 : l.length ≤ 1000000) (hb : b.length + (bf l).length ≤ 500000000) :
    OK 49 [.ptr 0 0, .buf 1] [.cells [.buf 2, .int .i64 n], .buf 1 0 b, .buf 1 q l] (.buf 3) (some [.cells [.buf 2, .int .i64 n], .buf 1 0 b, .buf 1 q l, .buf 1 0 (b ++ bl (bf l))]) := by
  refine al (C := cxz [(187, uQ), (180, inS d)] []) (tN ⟨Ce, Ca d, trivial⟩) (fn := Tryz.f49) rfl rfl rfl rfl fun hw _ => ?_
  all_goals try conv => whnf
  all_goals try (refine ae.mk ?_; try dsimp only)
  refine aT.mk Nat (fun i => i ≤ l.length) (fun i => if i = 0 then ⟨21, [(1, .buf 1), (10, .buf 2), (11, .int .i64 l.length), (12, .int .i64 0)], [.cells [.buf 2, .int .i64 n], .buf 1 0 b, .buf 1 q l], []⟩ else ⟨21, [(1, .buf 3), (10, .buf 2), (11, .int .i64 l.length), (12, .int .i64 i)], [.cells [.buf 2, .int .i64 n], .buf 1 0 b, .buf 1 q l, .buf 1 0 (b ++ bl (bf (l.take i)))], [1, 3, 4]⟩) (fun i => l.length - i) [] 0 (Nat.zero_le _) ?_ (fun i hi _ _ => ?_)
  . rw [if_pos rfl]
    refine Go.VG.Sub.mk rfl ?_ ?_ ?_ ?_ <;> (repeat' first | trivial)
  have hm : i < l.length → cQ d (l.getD i default) := fun h => hP _ (by rw [List.getD_eq_getElem?_getD, List.getElem?_eq_getElem h]; exact List.getElem_mem h)
  have hli := Dz hb i
  have hlp := fun h => DA (i := i) hb h
  have hnx := fun h => xC (l := l) (i := i) h
  by_cases hi0 : i = 0
  . subst hi0
    rw [if_pos rfl]
    have hlt := h0
    have hlp := hlp h0
    have hb9 : (b ++ bl (bf (l.take 0))).length = b.length := by rw [List.take_zero, jm]; exact congrArg List.length (List.append_nil b)
    have hnx : bf (l.take 1) = pB (l.getD 0 default) := by
     have := hnx h0
     rw [List.take_zero, jm] at this
     exact this
    have hwr : IntKind.i64.wrap 1 = ((1 : Nat) : Int) := by decide
    rcases (pc (hm hlt)).c with ⟨f, hx, ht, hwi, hpb⟩ | ⟨hd0, c', no, k, m, hx, hk1, hk2, hk3, hk4, hpb⟩
    . repeat' ((conv => whnf); first | apply aj | apply iN | (apply aw <;> intro h) | with_reducible refine ry ?_ ?_)
      all_goals try conv => whnf
      all_goals try (refine ae.mk ?_; try dsimp only)
      all_goals (try rw [show Int.toNat 0 = 0 from rfl])
      all_goals (try rw [hx])
      . omega
      . exact hlt
      . rfl
      . all_goals try conv => whnf
        all_goals try (refine ae.mk ?_; try dsimp only)
        refine ⟨187, by show eQ _ _ _; unfold eQ; simp, ?_⟩
        repeat' ((conv => whnf); apply aj)
        all_goals try conv => whnf
        all_goals try (refine ae.mk ?_; try dsimp only)
        . exact ⟨by first | trivial | rfl, hwi, by omega, by omega⟩
        . refine ⟨[], 1, by omega, ?_, by omega⟩
          rw [if_neg (by omega), hnx, hpb]
          refine Go.VG.Sub.mk rfl ?_ ?_ ?_ ?_ <;> (repeat' first | trivial)
          all_goals first
           | exact hwr
           | (simp only [dF, List.append_assoc]; done)
           | skip
      . exfalso; omega
    . obtain ⟨d, rfl⟩ : ∃ e, d = e + 1 := ⟨d - 1, by omega⟩
      repeat' ((conv => whnf); first | apply aj | apply iN | (apply aw <;> intro h) | with_reducible refine ry ?_ ?_)
      all_goals try conv => whnf
      all_goals try (refine ae.mk ?_; try dsimp only)
      all_goals (try rw [show Int.toNat 0 = 0 from rfl])
      all_goals (try rw [hx])
      . omega
      . exact hlt
      . rfl
      . all_goals try conv => whnf
        all_goals try (refine ae.mk ?_; try dsimp only)
        refine ⟨180, by show eQ _ _ _; unfold eQ; simp, ?_⟩
        repeat' ((conv => whnf); apply aj)
        all_goals try conv => whnf
        all_goals try (refine ae.mk ?_; try dsimp only)
        . exact ⟨by first | trivial | rfl, hk4, hk3, by rw [← hpb]; omega, by omega⟩
        . refine ⟨[], 1, by omega, ?_, by omega⟩
          rw [if_neg (by omega), hnx, hpb]
          refine Go.VG.Sub.mk rfl ?_ ?_ ?_ ?_ <;> (repeat' first | trivial)
          all_goals first
           | exact hwr
           | (simp only [dF, List.append_assoc]; done)
           | skip
      . exfalso; omega
  rw [if_neg hi0]
  by_cases hi2 : i = l.length
  . subst hi2
    rw [List.take_length]
    repeat' ((conv => whnf); first | apply aj | apply iN | (apply aw <;> intro h) | with_reducible refine pM ?_ ?_)
    all_goals try conv => whnf
    all_goals try (refine ae.mk ?_; try dsimp only)
    all_goals first
     | (exfalso; omega)
     | skip
    refine af.mk [] ?_ <;> (repeat' first | trivial)
  have hlt : i < l.length := by omega
  have hlp := hlp hlt
  have hnx := hnx hlt
  have hwr : IntKind.i64.wrap ((i : Int) + 1) = ((i + 1 : Nat) : Int) := by rw [bc]; omega
  rcases (pc (hm hlt)).c with ⟨f, hx, ht, hwi, hpb⟩ | ⟨hd0, c', no, k, m, hx, hk1, hk2, hk3, hk4, hpb⟩
  . repeat' ((conv => whnf); first | apply aj | apply iN | (apply aw <;> intro h) | with_reducible refine pM ?_ ?_)
    all_goals try conv => whnf
    all_goals try (refine ae.mk ?_; try dsimp only)
    all_goals (try rw [show Int.toNat 0 = 0 from rfl])
    all_goals (try rw [hx])
    . omega
    . exact hlt
    . rfl
    . all_goals try conv => whnf
      all_goals try (refine ae.mk ?_; try dsimp only)
      refine ⟨187, by show eQ _ _ _; unfold eQ; simp, ?_⟩
      repeat' ((conv => whnf); apply aj)
      all_goals try conv => whnf
      all_goals try (refine ae.mk ?_; try dsimp only)
      . exact ⟨by first | trivial | rfl, hwi, by omega, by omega⟩
      . refine ⟨[.swap 3 4], i + 1, by omega, ?_, by omega⟩
        rw [if_neg (by omega), hnx, hpb]
        refine Go.VG.Sub.mk rfl ?_ ?_ ?_ ?_ <;> (repeat' first | trivial | apply ax | apply aH | apply bo)
        all_goals first
         | exact hwr
         | (simp only [dF, List.append_assoc]; done)
         | skip
    . exfalso; omega
  . obtain ⟨d, rfl⟩ : ∃ e, d = e + 1 := ⟨d - 1, by omega⟩
    repeat' ((conv => whnf); first | apply aj | apply iN | (apply aw <;> intro h) | with_reducible refine pM ?_ ?_)
    all_goals try conv => whnf
    all_goals try (refine ae.mk ?_; try dsimp only)
    all_goals (try rw [show Int.toNat 0 = 0 from rfl])
    all_goals (try rw [hx])
    . omega
    . exact hlt
    . rfl
    . all_goals try conv => whnf
      all_goals try (refine ae.mk ?_; try dsimp only)
      refine ⟨180, by show eQ _ _ _; unfold eQ; simp, ?_⟩
      repeat' ((conv => whnf); apply aj)
      all_goals try conv => whnf
      all_goals try (refine ae.mk ?_; try dsimp only)
      . exact ⟨by first | trivial | rfl, hk4, hk3, by rw [← hpb]; omega, by omega⟩
      . refine ⟨[.swap 3 4], i + 1, by omega, ?_, by omega⟩
        rw [if_neg (by omega), hnx, hpb]
        refine Go.VG.Sub.mk rfl ?_ ?_ ?_ ?_ <;> (repeat' first | trivial | apply ax | apply aH | apply bo)
        all_goals first
         | exact hwr
         | (simp only [dF, List.append_assoc]; done)
         | skip
    . exfalso; omega
def v7 (d : Nat) : Sm := fun args σ => match args, σ with
 | [.ptr 0 0, .buf 1], [.cells [.buf 2, .int .i64 n], .buf 1 0 b, .buf 1 q (v :: l)] => some ((∀ x ∈ (v :: l), cQ d x) ∧ (v :: l).length ≤ 1000000 ∧ b.length + (bf (v :: l)).length ≤ 500000000, .buf 3, some [.cells [.buf 2, .int .i64 n], .buf 1 0 b, .buf 1 q (v :: l), .buf 1 0 (b ++ bl (bf (v :: l)))])
 | [.ptr 0 0, .buf 1], [.cells [.buf 2, .int .i64 n], .buf 1 0 b, .buf 1 q []] => some (True, .buf 1, some [.cells [.buf 2, .int .i64 n], .buf 1 0 b, .buf 1 q []])
 | _, _ => none
theorem Cr (d : Nat) : au 49 (v7 d) := by
 intro args sg pre x r he hp
 unfold v7 at he
 split at he <;> cases he
 . exact JD d _ _ _ _ (Nat.succ_pos _) hp.1 hp.2.1 hp.2.2
 . exact HH _ _ _ trivial
theorem H9 (d : Nat) (q : Nat) (l : List V) (hP : ∀ v ∈ l, cQ d v) (h9 : l.length ≤ 1000000) (hb : (bf l).length ≤ 100000000) :
   OK 23 [.ptr 0 0] [.cells [.buf 1, .int .i64 (bf l).length], .buf 1 q l] (.str (bf l)) (some [.cells [.buf 1, .int .i64 (bf l).length], .buf 1 q l]) := by
 cases l with
 | nil =>
   rw [jm]
   refine al (C := cx [(49, v7 d)]) (aq ⟨Cr d, trivial⟩) (fn := Tryz.f23) rfl rfl rfl rfl fun hw _ => ?_
   repeat' ((conv => whnf); apply aj)
   all_goals try conv => whnf
   all_goals try (refine ae.mk ?_; try dsimp only)
   . decide
   . refine ⟨[], rfl, ?_⟩
     all_goals try conv => whnf
     all_goals try (refine ae.mk ?_; try dsimp only)
     refine af.mk [] ?_ <;> (repeat' first | trivial)
 | cons v l =>
   generalize hm : bf (v :: l) = M at *
   refine al (C := cx [(49, v7 d)]) (aq ⟨Cr d, trivial⟩) (fn := Tryz.f23) rfl rfl rfl rfl fun hw _ => ?_
   repeat' ((conv => whnf); first | apply aj | apply goI)
   all_goals try conv => whnf
   all_goals try (refine ae.mk ?_; try dsimp only)
   . exact ⟨by omega, by omega, by omega⟩
   . exact ⟨hP, h9, by rw [hm]; simp; omega⟩
   . refine af.mk [] ?_ <;> (repeat' first | trivial | apply ax | apply dn)
end Go.Proofs.YtdjolnjlhbfnmaaGreatDoor
