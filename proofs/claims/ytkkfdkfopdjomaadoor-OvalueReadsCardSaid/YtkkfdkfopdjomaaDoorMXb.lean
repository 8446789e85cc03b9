/-
  A message that is written: what is laid of parts within parts.
-/
import Derived.Test.YtkkfdkfopdjomaaDoorMXa
set_option linter.unusedSimpArgs false
set_option linter.unusedVariables false
set_option maxHeartbeats 4000000
namespace Go.Proofs.YtkkfdkfopdjomaaDoor
open Go Go.VG
set_option maxRecDepth 100000
theorem psB_b {l : List V} {b : List V} {B : Nat} (h : b.length + (psB l).length ≤ B) (i : Nat) : (b ++ bl (psB (l.take i))).length ≤ B := by
  have := psB_take l i
  rw [List.length_append, bl_length]; omega
theorem psB_p {l : List V} {b : List V} {B : Nat} (h : b.length + (psB l).length ≤ B) {i : Nat} (hi : i < l.length) : (b ++ bl (psB (l.take i))).length + (pB (l.getD i default)).length ≤ B := by
  have := psB_take l (i + 1)
  rw [psB_next hi, List.length_append] at this
  rw [List.length_append, bl_length]; omega
/-- a part, as it is taken -/
theorem okP_cases {d : Nat} {v : V} (h : OkP (d + 1) v) : (∃ f : Pf, v = .iface 112 (ePf f) ∧ f.text.length ≤ 1000000 ∧ (f.wi = 0 ∨ f.wi = 2) ∧ pB v = fldB f) ∨
    (∃ (c : Bool) (no : Int) (l : List V) (n : Nat), v = .iface 97 (eIn c no l n) ∧ n = (psB l).length ∧ n ≤ 100000000 ∧ l.length ≤ 1000000 ∧ (∀ x ∈ l, OkP d x) ∧ pB v = tagB no 2 ++ (vput n ++ psB l)) := by
  cases h with
  | fld _ f ht hw => exact .inl ⟨f, rfl, ht, hw, pB_fld f⟩
  | sub _ c no l n hn h9 hl h => exact .inr ⟨c, no, l, n, rfl, hn, h9, hl, h, by rw [pB_sub, Int.toNat_natCast]⟩
theorem okP_zero {v : V} (h : OkP 0 v) : ∃ f : Pf, v = .iface 112 (ePf f) ∧ f.text.length ≤ 1000000 ∧ (f.wi = 0 ∨ f.wi = 2) ∧ pB v = fldB f := by
  cases h with
  | fld _ f ht hw => exact ⟨f, rfl, ht, hw, pB_fld f⟩
theorem okP_up {d : Nat} {v : V} (h : OkP 0 v) : OkP d v := by
  cases h with
  | fld _ f ht hw => exact .fld d f ht hw
theorem idx_own0 {l : List V} {n : Nat} {K : V → Prop} (h1 : Side (n < l.length)) (h2 : K (l.getD n default)) : IdxK l n K :=
  goH h1 fun a ha => by rw [List.getD_eq_getElem?_getD, ha] at h2; exact h2
theorem idx_own {l : List V} {n : Nat} {K : V → Prop} (h1 : Side (n < l.length)) (h2 : K (l.getD n default)) : IdxK l (n : Int).toNat K := idx_own0 h1 h2
/-- a part is a field, or holds parts -/
structure Pc (d : Nat) (v : V) : Prop where
  c : (∃ f : Pf, v = .iface 112 (ePf f) ∧ f.text.length ≤ 1000000 ∧ (f.wi = 0 ∨ f.wi = 2) ∧ pB v = fldB f) ∨
    (d ≠ 0 ∧ ∃ (c : Bool) (no : Int) (l : List V) (n : Nat), v = .iface 97 (eIn c no l n) ∧ n = (psB l).length ∧ n ≤ 100000000 ∧ l.length ≤ 1000000 ∧ (∀ x ∈ l, OkP (d - 1) x) ∧ pB v = tagB no 2 ++ (vput n ++ psB l))
theorem pc {d : Nat} {v : V} (h : OkP d v) : Pc d v := by
  cases d with
  | zero => exact ⟨.inl (okP_zero h)⟩
  | succ d => exact ⟨(okP_cases h).imp id fun q => ⟨by omega, q⟩⟩
/-- the method of a part that holds parts within so many others, if there are any -/
def inS : Nat → Sm
  | 0 => sm0
  | d + 1 => sm_inL d
theorem f_boxL (d : Nat) (hS : SOK 97 (inS d)) (c : Bool) (n : Int) (l : List V) (b : List V) (h0 : 0 < l.length) (hP : ∀ v ∈ l, OkP d v) (h9 : l.length ≤ 1000000) (hb : b.length + (psB l).length ≤ 500000000) :
    OK 30 [.box [.list c 1 l, .int .i64 n] 0, .buf 0] [.buf 1 0 b] (.buf 1) (some [.buf 1 0 b, .buf 1 0 (b ++ bl (psB l))]) := by
  refine funOK_of_vc (C := cxz [(105, sm_mxLay), (97, inS d)] []) (goodz ⟨k_mxLay, hS, trivial⟩) (fn := Tryd.f30) rfl rfl rfl rfl fun hw _ => ?_
  repeat' ((conv => whnf); first | with_reducible (first | refine go1 (fun j q h => ?_) fun h => ?_ | refine go2 ⟨rfl, rfl⟩ (fun h => ?_) fun j h => ?_ | refine go2 ?_ (fun h => ?_) fun j h => ?_ | refine goQ ?_ (fun h => ?_) fun h => ?_) | apply go3 | apply go4 | apply go5 | ((first | apply go6 | apply go7 | apply go8 | apply go9 | apply goA) <;> intro h) | with_reducible (first | refine IdxK.mk _ rfl ?_ | refine call_ite (fun h => ?_) fun h => ?_ | refine idx_own ?_ ?_ | refine idx_own0 ?_ ?_ | refine goB ?_ fun hc => ?_ | refine goC ?_ fun hc => ?_ | refine goD ?_ fun hc => ?_ | refine goE ?_ fun hc => ?_ | apply goF | apply goG | refine goH ?_ fun b hb => ?_) | apply goI | apply goJ | apply goK | apply goL | apply goM | apply goN | apply goO | with_reducible refine goP ?_)
  all_goals try conv => whnf
  all_goals try (refine Side.mk ?_; try dsimp only)
  refine LoopP.mk Nat (fun i => i ≤ l.length) (fun i => if i = 0 then ⟨21, [(1, .buf 0), (10, .list c 1 l), (11, .int .i64 l.length), (12, .int .i64 0)], [.buf 1 0 b], []⟩ else ⟨21, [(1, .buf 1), (10, .list c 1 l), (11, .int .i64 l.length), (12, .int .i64 i)], [.buf 1 0 b, .buf 1 0 (b ++ bl (psB (l.take i)))], [0, 1, 2]⟩) (fun i => l.length - i) [] 0 (Nat.zero_le _) ?_ (fun i hi _ _ => ?_)
  · rw [if_pos rfl]
    refine Go.VG.Sub.mk rfl ?_ ?_ ?_ ?_ <;> (repeat' first | trivial | rfl | exact eqS _ _ | apply andI | apply eqA | apply eqB | apply eqC | apply eqD | apply eqE | apply eqF | apply eqG | apply eqH | apply eqI)
  have hm : i < l.length → OkP d (l.getD i default) := fun h => hP _ (by rw [List.getD_eq_getElem?_getD, List.getElem?_eq_getElem h]; exact List.getElem_mem h)
  have hli := psB_b hb i
  have hlp := fun h => psB_p (i := i) hb h
  have hnx := fun h => psB_next (l := l) (i := i) h
  by_cases hi0 : i = 0
  · subst hi0
    rw [if_pos rfl]
    have hlt := h0
    have hlp := hlp h0
    have hb9 : (b ++ bl (psB (l.take 0))).length = b.length := by rw [List.take_zero, psB_nil]; exact congrArg List.length (List.append_nil b)
    have hnx : psB (l.take 1) = pB (l.getD 0 default) := by
      have := hnx h0
      rw [List.take_zero, psB_nil] at this
      exact this
    have hwr : IntKind.i64.wrap 1 = ((1 : Nat) : Int) := by decide
    rcases (pc (hm hlt)).c with ⟨f, hx, ht, hwi, hpb⟩ | ⟨hd0, c', no, k, m, hx, hk1, hk2, hk3, hk4, hpb⟩
    · repeat' ((conv => whnf); first | with_reducible (first | refine go1 (fun j q h => ?_) fun h => ?_ | refine go2 ⟨rfl, rfl⟩ (fun h => ?_) fun j h => ?_ | refine go2 ?_ (fun h => ?_) fun j h => ?_ | refine goQ ?_ (fun h => ?_) fun h => ?_) | apply go3 | apply go4 | apply go5 | ((first | apply go6 | apply go7 | apply go8 | apply go9 | apply goA) <;> intro h) | with_reducible (first | refine IdxK.mk _ rfl ?_ | refine call_ite (fun h => ?_) fun h => ?_ | refine idx_own ?_ ?_ | refine idx_own0 ?_ ?_ | refine goB ?_ fun hc => ?_ | refine goC ?_ fun hc => ?_ | refine goD ?_ fun hc => ?_ | refine goE ?_ fun hc => ?_ | apply goF | apply goG | refine goH ?_ fun b hb => ?_) | apply goI | apply goJ | apply goK | apply goL | apply goM | apply goN | apply goO | with_reducible refine goP ?_)
      all_goals try conv => whnf
      all_goals try (refine Side.mk ?_; try dsimp only)
      all_goals (try rw [show Int.toNat 0 = 0 from rfl])
      all_goals (try rw [hx])
      · omega
      · exact hlt
      · rfl
      · repeat' ((conv => whnf); first | with_reducible (first | refine go1 (fun j q h => ?_) fun h => ?_ | refine go2 ⟨rfl, rfl⟩ (fun h => ?_) fun j h => ?_ | refine go2 ?_ (fun h => ?_) fun j h => ?_ | refine goQ ?_ (fun h => ?_) fun h => ?_) | apply go3 | apply go4 | apply go5 | ((first | apply go6 | apply go7 | apply go8 | apply go9 | apply goA) <;> intro h) | with_reducible (first | refine IdxK.mk _ rfl ?_ | refine call_ite (fun h => ?_) fun h => ?_ | refine idx_own ?_ ?_ | refine idx_own0 ?_ ?_ | refine goB ?_ fun hc => ?_ | refine goC ?_ fun hc => ?_ | refine goD ?_ fun hc => ?_ | refine goE ?_ fun hc => ?_ | apply goF | apply goG | refine goH ?_ fun b hb => ?_) | apply goI | apply goJ | apply goK | apply goL | apply goM | apply goN | apply goO | with_reducible refine goP ?_)
        all_goals try conv => whnf
        all_goals try (refine Side.mk ?_; try dsimp only)
        refine ⟨105, by show mtP _ _ _; unfold mtP; simp, ?_⟩
        repeat' ((conv => whnf); first | with_reducible (first | refine go1 (fun j q h => ?_) fun h => ?_ | refine go2 ⟨rfl, rfl⟩ (fun h => ?_) fun j h => ?_ | refine go2 ?_ (fun h => ?_) fun j h => ?_ | refine goQ ?_ (fun h => ?_) fun h => ?_) | apply go3 | apply go4 | apply go5 | ((first | apply go6 | apply go7 | apply go8 | apply go9 | apply goA) <;> intro h) | with_reducible (first | refine IdxK.mk _ rfl ?_ | refine call_ite (fun h => ?_) fun h => ?_ | refine idx_own ?_ ?_ | refine idx_own0 ?_ ?_ | refine goB ?_ fun hc => ?_ | refine goC ?_ fun hc => ?_ | refine goD ?_ fun hc => ?_ | refine goE ?_ fun hc => ?_ | apply goF | apply goG | refine goH ?_ fun b hb => ?_) | apply goI | apply goJ | apply goK | apply goL | apply goM | apply goN | apply goO | with_reducible refine goP ?_)
        all_goals try conv => whnf
        all_goals try (refine Side.mk ?_; try dsimp only)
        · exact ⟨by first | trivial | rfl, hwi, by omega, by omega⟩
        · refine ⟨[], 1, by omega, ?_, by omega⟩
          rw [if_neg (by omega), hnx, hpb]
          refine Go.VG.Sub.mk rfl ?_ ?_ ?_ ?_ <;> (repeat' first | trivial | rfl | exact eqS _ _ | apply andI | apply eqA | apply eqB | apply eqC | apply eqD | apply eqE | apply eqF | apply eqG | apply eqH | apply eqI)
          all_goals first
            | exact hwr
            | (simp only [bl_append, List.append_assoc]; done)
            | skip
      · exfalso; omega
    · obtain ⟨d, rfl⟩ : ∃ e, d = e + 1 := ⟨d - 1, by omega⟩
      repeat' ((conv => whnf); first | with_reducible (first | refine go1 (fun j q h => ?_) fun h => ?_ | refine go2 ⟨rfl, rfl⟩ (fun h => ?_) fun j h => ?_ | refine go2 ?_ (fun h => ?_) fun j h => ?_ | refine goQ ?_ (fun h => ?_) fun h => ?_) | apply go3 | apply go4 | apply go5 | ((first | apply go6 | apply go7 | apply go8 | apply go9 | apply goA) <;> intro h) | with_reducible (first | refine IdxK.mk _ rfl ?_ | refine call_ite (fun h => ?_) fun h => ?_ | refine idx_own ?_ ?_ | refine idx_own0 ?_ ?_ | refine goB ?_ fun hc => ?_ | refine goC ?_ fun hc => ?_ | refine goD ?_ fun hc => ?_ | refine goE ?_ fun hc => ?_ | apply goF | apply goG | refine goH ?_ fun b hb => ?_) | apply goI | apply goJ | apply goK | apply goL | apply goM | apply goN | apply goO | with_reducible refine goP ?_)
      all_goals try conv => whnf
      all_goals try (refine Side.mk ?_; try dsimp only)
      all_goals (try rw [show Int.toNat 0 = 0 from rfl])
      all_goals (try rw [hx])
      · omega
      · exact hlt
      · rfl
      · repeat' ((conv => whnf); first | with_reducible (first | refine go1 (fun j q h => ?_) fun h => ?_ | refine go2 ⟨rfl, rfl⟩ (fun h => ?_) fun j h => ?_ | refine go2 ?_ (fun h => ?_) fun j h => ?_ | refine goQ ?_ (fun h => ?_) fun h => ?_) | apply go3 | apply go4 | apply go5 | ((first | apply go6 | apply go7 | apply go8 | apply go9 | apply goA) <;> intro h) | with_reducible (first | refine IdxK.mk _ rfl ?_ | refine call_ite (fun h => ?_) fun h => ?_ | refine idx_own ?_ ?_ | refine idx_own0 ?_ ?_ | refine goB ?_ fun hc => ?_ | refine goC ?_ fun hc => ?_ | refine goD ?_ fun hc => ?_ | refine goE ?_ fun hc => ?_ | apply goF | apply goG | refine goH ?_ fun b hb => ?_) | apply goI | apply goJ | apply goK | apply goL | apply goM | apply goN | apply goO | with_reducible refine goP ?_)
        all_goals try conv => whnf
        all_goals try (refine Side.mk ?_; try dsimp only)
        refine ⟨97, by show mtP _ _ _; unfold mtP; simp, ?_⟩
        repeat' ((conv => whnf); first | with_reducible (first | refine go1 (fun j q h => ?_) fun h => ?_ | refine go2 ⟨rfl, rfl⟩ (fun h => ?_) fun j h => ?_ | refine go2 ?_ (fun h => ?_) fun j h => ?_ | refine goQ ?_ (fun h => ?_) fun h => ?_) | apply go3 | apply go4 | apply go5 | ((first | apply go6 | apply go7 | apply go8 | apply go9 | apply goA) <;> intro h) | with_reducible (first | refine IdxK.mk _ rfl ?_ | refine call_ite (fun h => ?_) fun h => ?_ | refine idx_own ?_ ?_ | refine idx_own0 ?_ ?_ | refine goB ?_ fun hc => ?_ | refine goC ?_ fun hc => ?_ | refine goD ?_ fun hc => ?_ | refine goE ?_ fun hc => ?_ | apply goF | apply goG | refine goH ?_ fun b hb => ?_) | apply goI | apply goJ | apply goK | apply goL | apply goM | apply goN | apply goO | with_reducible refine goP ?_)
        all_goals try conv => whnf
        all_goals try (refine Side.mk ?_; try dsimp only)
        · exact ⟨by first | trivial | rfl, hk4, hk3, by rw [← hpb]; omega, by omega⟩
        · refine ⟨[], 1, by omega, ?_, by omega⟩
          rw [if_neg (by omega), hnx, hpb]
          refine Go.VG.Sub.mk rfl ?_ ?_ ?_ ?_ <;> (repeat' first | trivial | rfl | exact eqS _ _ | apply andI | apply eqA | apply eqB | apply eqC | apply eqD | apply eqE | apply eqF | apply eqG | apply eqH | apply eqI)
          all_goals first
            | exact hwr
            | (simp only [bl_append, List.append_assoc]; done)
            | skip
      · exfalso; omega
  rw [if_neg hi0]
  by_cases hi2 : i = l.length
  · subst hi2
    rw [List.take_length]
    repeat' ((conv => whnf); first | with_reducible (first | refine go1 (fun j q h => ?_) fun h => ?_ | refine go2 ⟨rfl, rfl⟩ (fun h => ?_) fun j h => ?_ | refine go2 ?_ (fun h => ?_) fun j h => ?_ | refine goQ ?_ (fun h => ?_) fun h => ?_) | apply go3 | apply go4 | apply go5 | ((first | apply go6 | apply go7 | apply go8 | apply go9 | apply goA) <;> intro h) | with_reducible (first | refine IdxK.mk _ rfl ?_ | refine call_ite (fun h => ?_) fun h => ?_ | refine idx_own ?_ ?_ | refine idx_own0 ?_ ?_ | refine goB ?_ fun hc => ?_ | refine goC ?_ fun hc => ?_ | refine goD ?_ fun hc => ?_ | refine goE ?_ fun hc => ?_ | apply goF | apply goG | refine goH ?_ fun b hb => ?_) | apply goI | apply goJ | apply goK | apply goL | apply goM | apply goN | apply goO | with_reducible refine goP ?_)
    all_goals try conv => whnf
    all_goals try (refine Side.mk ?_; try dsimp only)
    all_goals first
      | (exfalso; omega)
      | skip
    refine EndP.mk [] ?_ <;> (repeat' first | trivial | rfl | exact eqS _ _ | apply andI | apply eqA | apply eqB | apply eqC | apply eqD | apply eqE | apply eqF | apply eqG | apply eqH | apply eqI)
  have hlt : i < l.length := by omega
  have hlp := hlp hlt
  have hnx := hnx hlt
  have hwr : IntKind.i64.wrap ((i : Int) + 1) = ((i + 1 : Nat) : Int) := by rw [wi64]; omega
  rcases (pc (hm hlt)).c with ⟨f, hx, ht, hwi, hpb⟩ | ⟨hd0, c', no, k, m, hx, hk1, hk2, hk3, hk4, hpb⟩
  · repeat' ((conv => whnf); first | with_reducible (first | refine go1 (fun j q h => ?_) fun h => ?_ | refine go2 ⟨rfl, rfl⟩ (fun h => ?_) fun j h => ?_ | refine go2 ?_ (fun h => ?_) fun j h => ?_ | refine goQ ?_ (fun h => ?_) fun h => ?_) | apply go3 | apply go4 | apply go5 | ((first | apply go6 | apply go7 | apply go8 | apply go9 | apply goA) <;> intro h) | with_reducible (first | refine IdxK.mk _ rfl ?_ | refine call_ite (fun h => ?_) fun h => ?_ | refine idx_own ?_ ?_ | refine idx_own0 ?_ ?_ | refine goB ?_ fun hc => ?_ | refine goC ?_ fun hc => ?_ | refine goD ?_ fun hc => ?_ | refine goE ?_ fun hc => ?_ | apply goF | apply goG | refine goH ?_ fun b hb => ?_) | apply goI | apply goJ | apply goK | apply goL | apply goM | apply goN | apply goO | with_reducible refine goP ?_)
    all_goals try conv => whnf
    all_goals try (refine Side.mk ?_; try dsimp only)
    all_goals (try rw [show Int.toNat 0 = 0 from rfl])
    all_goals (try rw [hx])
    · omega
    · exact hlt
    · rfl
    · repeat' ((conv => whnf); first | with_reducible (first | refine go1 (fun j q h => ?_) fun h => ?_ | refine go2 ⟨rfl, rfl⟩ (fun h => ?_) fun j h => ?_ | refine go2 ?_ (fun h => ?_) fun j h => ?_ | refine goQ ?_ (fun h => ?_) fun h => ?_) | apply go3 | apply go4 | apply go5 | ((first | apply go6 | apply go7 | apply go8 | apply go9 | apply goA) <;> intro h) | with_reducible (first | refine IdxK.mk _ rfl ?_ | refine call_ite (fun h => ?_) fun h => ?_ | refine idx_own ?_ ?_ | refine idx_own0 ?_ ?_ | refine goB ?_ fun hc => ?_ | refine goC ?_ fun hc => ?_ | refine goD ?_ fun hc => ?_ | refine goE ?_ fun hc => ?_ | apply goF | apply goG | refine goH ?_ fun b hb => ?_) | apply goI | apply goJ | apply goK | apply goL | apply goM | apply goN | apply goO | with_reducible refine goP ?_)
      all_goals try conv => whnf
      all_goals try (refine Side.mk ?_; try dsimp only)
      refine ⟨105, by show mtP _ _ _; unfold mtP; simp, ?_⟩
      repeat' ((conv => whnf); first | with_reducible (first | refine go1 (fun j q h => ?_) fun h => ?_ | refine go2 ⟨rfl, rfl⟩ (fun h => ?_) fun j h => ?_ | refine go2 ?_ (fun h => ?_) fun j h => ?_ | refine goQ ?_ (fun h => ?_) fun h => ?_) | apply go3 | apply go4 | apply go5 | ((first | apply go6 | apply go7 | apply go8 | apply go9 | apply goA) <;> intro h) | with_reducible (first | refine IdxK.mk _ rfl ?_ | refine call_ite (fun h => ?_) fun h => ?_ | refine idx_own ?_ ?_ | refine idx_own0 ?_ ?_ | refine goB ?_ fun hc => ?_ | refine goC ?_ fun hc => ?_ | refine goD ?_ fun hc => ?_ | refine goE ?_ fun hc => ?_ | apply goF | apply goG | refine goH ?_ fun b hb => ?_) | apply goI | apply goJ | apply goK | apply goL | apply goM | apply goN | apply goO | with_reducible refine goP ?_)
      all_goals try conv => whnf
      all_goals try (refine Side.mk ?_; try dsimp only)
      · exact ⟨by first | trivial | rfl, hwi, by omega, by omega⟩
      · refine ⟨[.swap 1 2], i + 1, by omega, ?_, by omega⟩
        rw [if_neg (by omega), hnx, hpb]
        refine Go.VG.Sub.mk rfl ?_ ?_ ?_ ?_ <;> (repeat' first | trivial | rfl | exact eqS _ _ | apply andI | apply eqA | apply eqB | apply eqC | apply eqD | apply eqE | apply eqF | apply eqG | apply eqH | apply eqI)
        all_goals first
          | exact hwr
          | (simp only [bl_append, List.append_assoc]; done)
          | skip
    · exfalso; omega
  · obtain ⟨d, rfl⟩ : ∃ e, d = e + 1 := ⟨d - 1, by omega⟩
    repeat' ((conv => whnf); first | with_reducible (first | refine go1 (fun j q h => ?_) fun h => ?_ | refine go2 ⟨rfl, rfl⟩ (fun h => ?_) fun j h => ?_ | refine go2 ?_ (fun h => ?_) fun j h => ?_ | refine goQ ?_ (fun h => ?_) fun h => ?_) | apply go3 | apply go4 | apply go5 | ((first | apply go6 | apply go7 | apply go8 | apply go9 | apply goA) <;> intro h) | with_reducible (first | refine IdxK.mk _ rfl ?_ | refine call_ite (fun h => ?_) fun h => ?_ | refine idx_own ?_ ?_ | refine idx_own0 ?_ ?_ | refine goB ?_ fun hc => ?_ | refine goC ?_ fun hc => ?_ | refine goD ?_ fun hc => ?_ | refine goE ?_ fun hc => ?_ | apply goF | apply goG | refine goH ?_ fun b hb => ?_) | apply goI | apply goJ | apply goK | apply goL | apply goM | apply goN | apply goO | with_reducible refine goP ?_)
    all_goals try conv => whnf
    all_goals try (refine Side.mk ?_; try dsimp only)
    all_goals (try rw [show Int.toNat 0 = 0 from rfl])
    all_goals (try rw [hx])
    · omega
    · exact hlt
    · rfl
    · repeat' ((conv => whnf); first | with_reducible (first | refine go1 (fun j q h => ?_) fun h => ?_ | refine go2 ⟨rfl, rfl⟩ (fun h => ?_) fun j h => ?_ | refine go2 ?_ (fun h => ?_) fun j h => ?_ | refine goQ ?_ (fun h => ?_) fun h => ?_) | apply go3 | apply go4 | apply go5 | ((first | apply go6 | apply go7 | apply go8 | apply go9 | apply goA) <;> intro h) | with_reducible (first | refine IdxK.mk _ rfl ?_ | refine call_ite (fun h => ?_) fun h => ?_ | refine idx_own ?_ ?_ | refine idx_own0 ?_ ?_ | refine goB ?_ fun hc => ?_ | refine goC ?_ fun hc => ?_ | refine goD ?_ fun hc => ?_ | refine goE ?_ fun hc => ?_ | apply goF | apply goG | refine goH ?_ fun b hb => ?_) | apply goI | apply goJ | apply goK | apply goL | apply goM | apply goN | apply goO | with_reducible refine goP ?_)
      all_goals try conv => whnf
      all_goals try (refine Side.mk ?_; try dsimp only)
      refine ⟨97, by show mtP _ _ _; unfold mtP; simp, ?_⟩
      repeat' ((conv => whnf); first | with_reducible (first | refine go1 (fun j q h => ?_) fun h => ?_ | refine go2 ⟨rfl, rfl⟩ (fun h => ?_) fun j h => ?_ | refine go2 ?_ (fun h => ?_) fun j h => ?_ | refine goQ ?_ (fun h => ?_) fun h => ?_) | apply go3 | apply go4 | apply go5 | ((first | apply go6 | apply go7 | apply go8 | apply go9 | apply goA) <;> intro h) | with_reducible (first | refine IdxK.mk _ rfl ?_ | refine call_ite (fun h => ?_) fun h => ?_ | refine idx_own ?_ ?_ | refine idx_own0 ?_ ?_ | refine goB ?_ fun hc => ?_ | refine goC ?_ fun hc => ?_ | refine goD ?_ fun hc => ?_ | refine goE ?_ fun hc => ?_ | apply goF | apply goG | refine goH ?_ fun b hb => ?_) | apply goI | apply goJ | apply goK | apply goL | apply goM | apply goN | apply goO | with_reducible refine goP ?_)
      all_goals try conv => whnf
      all_goals try (refine Side.mk ?_; try dsimp only)
      · exact ⟨by first | trivial | rfl, hk4, hk3, by rw [← hpb]; omega, by omega⟩
      · refine ⟨[.swap 1 2], i + 1, by omega, ?_, by omega⟩
        rw [if_neg (by omega), hnx, hpb]
        refine Go.VG.Sub.mk rfl ?_ ?_ ?_ ?_ <;> (repeat' first | trivial | rfl | exact eqS _ _ | apply andI | apply eqA | apply eqB | apply eqC | apply eqD | apply eqE | apply eqF | apply eqG | apply eqH | apply eqI)
        all_goals first
          | exact hwr
          | (simp only [bl_append, List.append_assoc]; done)
          | skip
    · exfalso; omega
theorem f_mxN_1 (c : Bool) (b : List V) (n : Int) (hp : True) : OK 30 ([.box [.list c 1 [], .int .i64 n] 0, .buf 0]) ([.buf 1 0 b]) (.buf 0) (some [.buf 1 0 b]) := by
  refine funOK_of_vc (C := cx []) (good trivial) (fn := Tryd.f30) rfl rfl rfl rfl fun hw hs => ?_
  repeat' ((conv => whnf); first | with_reducible (first | refine go1 (fun j q h => ?_) fun h => ?_ | refine go2 ⟨rfl, rfl⟩ (fun h => ?_) fun j h => ?_ | refine go2 ?_ (fun h => ?_) fun j h => ?_ | refine goQ ?_ (fun h => ?_) fun h => ?_) | apply go3 | apply go4 | apply go5 | ((first | apply go6 | apply go7 | apply go8 | apply go9 | apply goA) <;> intro h) | with_reducible (first | refine IdxK.mk _ rfl ?_ | refine call_ite (fun h => ?_) fun h => ?_ | refine idx_own ?_ ?_ | refine idx_own0 ?_ ?_ | refine goB ?_ fun hc => ?_ | refine goC ?_ fun hc => ?_ | refine goD ?_ fun hc => ?_ | refine goE ?_ fun hc => ?_ | apply goF | apply goG | refine goH ?_ fun b hb => ?_) | apply goI | apply goJ | apply goK | apply goL | apply goM | apply goN | apply goO | with_reducible refine goP ?_)
  all_goals try conv => whnf
  all_goals try (refine Side.mk ?_; try dsimp only)
  refine LoopP.mk Nat (fun i => i = 0) (fun _ => ⟨21, [(1, .buf 0), (10, .list c 1 []), (11, .int .i64 0), (12, .int .i64 0)], [.buf 1 0 b], []⟩) (fun _ => 0) [] 0 rfl ?_ (fun i hi _ _ => ?_)
  · refine Go.VG.Sub.mk rfl ?_ ?_ ?_ ?_ <;> (repeat' first | trivial | rfl | exact eqS _ _ | apply andI | apply eqA | apply eqB | apply eqC | apply eqD | apply eqE | apply eqF | apply eqG | apply eqH | apply eqI)
  repeat' ((conv => whnf); first | with_reducible (first | refine go1 (fun j q h => ?_) fun h => ?_ | refine go2 ⟨rfl, rfl⟩ (fun h => ?_) fun j h => ?_ | refine go2 ?_ (fun h => ?_) fun j h => ?_ | refine goQ ?_ (fun h => ?_) fun h => ?_) | apply go3 | apply go4 | apply go5 | ((first | apply go6 | apply go7 | apply go8 | apply go9 | apply goA) <;> intro h) | with_reducible (first | refine IdxK.mk _ rfl ?_ | refine call_ite (fun h => ?_) fun h => ?_ | refine idx_own ?_ ?_ | refine idx_own0 ?_ ?_ | refine goB ?_ fun hc => ?_ | refine goC ?_ fun hc => ?_ | refine goD ?_ fun hc => ?_ | refine goE ?_ fun hc => ?_ | apply goF | apply goG | refine goH ?_ fun b hb => ?_) | apply goI | apply goJ | apply goK | apply goL | apply goM | apply goN | apply goO | with_reducible refine goP ?_)
  all_goals try conv => whnf
  all_goals try (refine Side.mk ?_; try dsimp only)
  refine EndP.mk [] ?_ <;> (repeat' first | trivial | rfl | exact eqS _ _ | apply andI | apply eqA | apply eqB | apply eqC | apply eqD | apply eqE | apply eqF | apply eqG | apply eqH | apply eqI)
theorem f_mxN_2 (q : Nat) (b : List V) (n : Int) (hp : True) : OK 30 ([.ptr 0 0, .buf 1]) ([.cells [.buf 2, .int .i64 n], .buf 1 0 b, .buf 1 q []]) (.buf 1) (some [.cells [.buf 2, .int .i64 n], .buf 1 0 b, .buf 1 q []]) := by
  refine funOK_of_vc (C := cx []) (good trivial) (fn := Tryd.f30) rfl rfl rfl rfl fun hw hs => ?_
  repeat' ((conv => whnf); first | with_reducible (first | refine go1 (fun j q h => ?_) fun h => ?_ | refine go2 ⟨rfl, rfl⟩ (fun h => ?_) fun j h => ?_ | refine go2 ?_ (fun h => ?_) fun j h => ?_ | refine goQ ?_ (fun h => ?_) fun h => ?_) | apply go3 | apply go4 | apply go5 | ((first | apply go6 | apply go7 | apply go8 | apply go9 | apply goA) <;> intro h) | with_reducible (first | refine IdxK.mk _ rfl ?_ | refine call_ite (fun h => ?_) fun h => ?_ | refine idx_own ?_ ?_ | refine idx_own0 ?_ ?_ | refine goB ?_ fun hc => ?_ | refine goC ?_ fun hc => ?_ | refine goD ?_ fun hc => ?_ | refine goE ?_ fun hc => ?_ | apply goF | apply goG | refine goH ?_ fun b hb => ?_) | apply goI | apply goJ | apply goK | apply goL | apply goM | apply goN | apply goO | with_reducible refine goP ?_)
  all_goals try conv => whnf
  all_goals try (refine Side.mk ?_; try dsimp only)
  refine LoopP.mk Nat (fun i => i = 0) (fun _ => ⟨21, [(1, .buf 1), (10, .buf 2), (11, .int .i64 0), (12, .int .i64 0)], [.cells [.buf 2, .int .i64 n], .buf 1 0 b, .buf 1 q []], []⟩) (fun _ => 0) [] 0 rfl ?_ (fun i hi _ _ => ?_)
  · refine Go.VG.Sub.mk rfl ?_ ?_ ?_ ?_ <;> (repeat' first | trivial | rfl | exact eqS _ _ | apply andI | apply eqA | apply eqB | apply eqC | apply eqD | apply eqE | apply eqF | apply eqG | apply eqH | apply eqI)
  repeat' ((conv => whnf); first | with_reducible (first | refine go1 (fun j q h => ?_) fun h => ?_ | refine go2 ⟨rfl, rfl⟩ (fun h => ?_) fun j h => ?_ | refine go2 ?_ (fun h => ?_) fun j h => ?_ | refine goQ ?_ (fun h => ?_) fun h => ?_) | apply go3 | apply go4 | apply go5 | ((first | apply go6 | apply go7 | apply go8 | apply go9 | apply goA) <;> intro h) | with_reducible (first | refine IdxK.mk _ rfl ?_ | refine call_ite (fun h => ?_) fun h => ?_ | refine idx_own ?_ ?_ | refine idx_own0 ?_ ?_ | refine goB ?_ fun hc => ?_ | refine goC ?_ fun hc => ?_ | refine goD ?_ fun hc => ?_ | refine goE ?_ fun hc => ?_ | apply goF | apply goG | refine goH ?_ fun b hb => ?_) | apply goI | apply goJ | apply goK | apply goL | apply goM | apply goN | apply goO | with_reducible refine goP ?_)
  all_goals try conv => whnf
  all_goals try (refine Side.mk ?_; try dsimp only)
  refine EndP.mk [] ?_ <;> (repeat' first | trivial | rfl | exact eqS _ _ | apply andI | apply eqA | apply eqB | apply eqC | apply eqD | apply eqE | apply eqF | apply eqG | apply eqH | apply eqI)
def sm_mxN : Sm := fun args σ => match args, σ with
  | [.box [.list c 1 [], .int .i64 n] 0, .buf 0], [.buf 1 0 b] => some (True, .buf 0, some [.buf 1 0 b])
  | [.ptr 0 0, .buf 1], [.cells [.buf 2, .int .i64 n], .buf 1 0 b, .buf 1 q []] => some (True, .buf 1, some [.cells [.buf 2, .int .i64 n], .buf 1 0 b, .buf 1 q []])
  | _, _ => none
theorem k_mxN : SOK 30 sm_mxN := by
  intro args sg pre x r he hp
  unfold sm_mxN at he
  split at he <;> cases he
  · exact f_mxN_1 (hp := hp) ..
  · exact f_mxN_2 (hp := hp) ..
theorem k_boxL0 (d : Nat) (hS : SOK 97 (inS d)) : SOK 30 (sm_boxL d) := by
  intro args sg pre x r he hp
  unfold sm_boxL at he
  split at he <;> cases he
  · exact f_boxL d hS _ _ _ _ (Nat.succ_pos _) hp.1 hp.2.1 hp.2.2
  · exact f_mxN_1 _ _ _ trivial
theorem k_inS : ∀ d, SOK 97 (inS d)
  | 0 => sm0_ok
  | d + 1 => k_inL d (k_boxL0 d (k_inS d))
theorem f_ptrL (d : Nat) (n : Int) (q : Nat) (l : List V) (b : List V) (h0 : 0 < l.length) (hP : ∀ v ∈ l, OkP d v) (h9 : l.length ≤ 1000000) (hb : b.length + (psB l).length ≤ 500000000) :
    OK 30 [.ptr 0 0, .buf 1] [.cells [.buf 2, .int .i64 n], .buf 1 0 b, .buf 1 q l] (.buf 3) (some [.cells [.buf 2, .int .i64 n], .buf 1 0 b, .buf 1 q l, .buf 1 0 (b ++ bl (psB l))]) := by
  refine funOK_of_vc (C := cxz [(105, sm_mxLay), (97, inS d)] []) (goodz ⟨k_mxLay, k_inS d, trivial⟩) (fn := Tryd.f30) rfl rfl rfl rfl fun hw _ => ?_
  repeat' ((conv => whnf); first | with_reducible (first | refine go1 (fun j q h => ?_) fun h => ?_ | refine go2 ⟨rfl, rfl⟩ (fun h => ?_) fun j h => ?_ | refine go2 ?_ (fun h => ?_) fun j h => ?_ | refine goQ ?_ (fun h => ?_) fun h => ?_) | apply go3 | apply go4 | apply go5 | ((first | apply go6 | apply go7 | apply go8 | apply go9 | apply goA) <;> intro h) | with_reducible (first | refine IdxK.mk _ rfl ?_ | refine call_ite (fun h => ?_) fun h => ?_ | refine idx_own ?_ ?_ | refine idx_own0 ?_ ?_ | refine goB ?_ fun hc => ?_ | refine goC ?_ fun hc => ?_ | refine goD ?_ fun hc => ?_ | refine goE ?_ fun hc => ?_ | apply goF | apply goG | refine goH ?_ fun b hb => ?_) | apply goI | apply goJ | apply goK | apply goL | apply goM | apply goN | apply goO | with_reducible refine goP ?_)
  all_goals try conv => whnf
  all_goals try (refine Side.mk ?_; try dsimp only)
  refine LoopP.mk Nat (fun i => i ≤ l.length) (fun i => if i = 0 then ⟨21, [(1, .buf 1), (10, .buf 2), (11, .int .i64 l.length), (12, .int .i64 0)], [.cells [.buf 2, .int .i64 n], .buf 1 0 b, .buf 1 q l], []⟩ else ⟨21, [(1, .buf 3), (10, .buf 2), (11, .int .i64 l.length), (12, .int .i64 i)], [.cells [.buf 2, .int .i64 n], .buf 1 0 b, .buf 1 q l, .buf 1 0 (b ++ bl (psB (l.take i)))], [1, 3, 4]⟩) (fun i => l.length - i) [] 0 (Nat.zero_le _) ?_ (fun i hi _ _ => ?_)
  · rw [if_pos rfl]
    refine Go.VG.Sub.mk rfl ?_ ?_ ?_ ?_ <;> (repeat' first | trivial | rfl | exact eqS _ _ | apply andI | apply eqA | apply eqB | apply eqC | apply eqD | apply eqE | apply eqF | apply eqG | apply eqH | apply eqI)
  have hm : i < l.length → OkP d (l.getD i default) := fun h => hP _ (by rw [List.getD_eq_getElem?_getD, List.getElem?_eq_getElem h]; exact List.getElem_mem h)
  have hli := psB_b hb i
  have hlp := fun h => psB_p (i := i) hb h
  have hnx := fun h => psB_next (l := l) (i := i) h
  by_cases hi0 : i = 0
  · subst hi0
    rw [if_pos rfl]
    have hlt := h0
    have hlp := hlp h0
    have hb9 : (b ++ bl (psB (l.take 0))).length = b.length := by rw [List.take_zero, psB_nil]; exact congrArg List.length (List.append_nil b)
    have hnx : psB (l.take 1) = pB (l.getD 0 default) := by
      have := hnx h0
      rw [List.take_zero, psB_nil] at this
      exact this
    have hwr : IntKind.i64.wrap 1 = ((1 : Nat) : Int) := by decide
    rcases (pc (hm hlt)).c with ⟨f, hx, ht, hwi, hpb⟩ | ⟨hd0, c', no, k, m, hx, hk1, hk2, hk3, hk4, hpb⟩
    · repeat' ((conv => whnf); first | with_reducible (first | refine go1 (fun j q h => ?_) fun h => ?_ | refine go2 ⟨rfl, rfl⟩ (fun h => ?_) fun j h => ?_ | refine go2 ?_ (fun h => ?_) fun j h => ?_ | refine goQ ?_ (fun h => ?_) fun h => ?_) | apply go3 | apply go4 | apply go5 | ((first | apply go6 | apply go7 | apply go8 | apply go9 | apply goA) <;> intro h) | with_reducible (first | refine IdxK.mk _ rfl ?_ | refine call_ite (fun h => ?_) fun h => ?_ | refine idx_own ?_ ?_ | refine idx_own0 ?_ ?_ | refine goB ?_ fun hc => ?_ | refine goC ?_ fun hc => ?_ | refine goD ?_ fun hc => ?_ | refine goE ?_ fun hc => ?_ | apply goF | apply goG | refine goH ?_ fun b hb => ?_) | apply goI | apply goJ | apply goK | apply goL | apply goM | apply goN | apply goO | with_reducible refine goP ?_)
      all_goals try conv => whnf
      all_goals try (refine Side.mk ?_; try dsimp only)
      all_goals (try rw [show Int.toNat 0 = 0 from rfl])
      all_goals (try rw [hx])
      · omega
      · exact hlt
      · rfl
      · repeat' ((conv => whnf); first | with_reducible (first | refine go1 (fun j q h => ?_) fun h => ?_ | refine go2 ⟨rfl, rfl⟩ (fun h => ?_) fun j h => ?_ | refine go2 ?_ (fun h => ?_) fun j h => ?_ | refine goQ ?_ (fun h => ?_) fun h => ?_) | apply go3 | apply go4 | apply go5 | ((first | apply go6 | apply go7 | apply go8 | apply go9 | apply goA) <;> intro h) | with_reducible (first | refine IdxK.mk _ rfl ?_ | refine call_ite (fun h => ?_) fun h => ?_ | refine idx_own ?_ ?_ | refine idx_own0 ?_ ?_ | refine goB ?_ fun hc => ?_ | refine goC ?_ fun hc => ?_ | refine goD ?_ fun hc => ?_ | refine goE ?_ fun hc => ?_ | apply goF | apply goG | refine goH ?_ fun b hb => ?_) | apply goI | apply goJ | apply goK | apply goL | apply goM | apply goN | apply goO | with_reducible refine goP ?_)
        all_goals try conv => whnf
        all_goals try (refine Side.mk ?_; try dsimp only)
        refine ⟨105, by show mtP _ _ _; unfold mtP; simp, ?_⟩
        repeat' ((conv => whnf); first | with_reducible (first | refine go1 (fun j q h => ?_) fun h => ?_ | refine go2 ⟨rfl, rfl⟩ (fun h => ?_) fun j h => ?_ | refine go2 ?_ (fun h => ?_) fun j h => ?_ | refine goQ ?_ (fun h => ?_) fun h => ?_) | apply go3 | apply go4 | apply go5 | ((first | apply go6 | apply go7 | apply go8 | apply go9 | apply goA) <;> intro h) | with_reducible (first | refine IdxK.mk _ rfl ?_ | refine call_ite (fun h => ?_) fun h => ?_ | refine idx_own ?_ ?_ | refine idx_own0 ?_ ?_ | refine goB ?_ fun hc => ?_ | refine goC ?_ fun hc => ?_ | refine goD ?_ fun hc => ?_ | refine goE ?_ fun hc => ?_ | apply goF | apply goG | refine goH ?_ fun b hb => ?_) | apply goI | apply goJ | apply goK | apply goL | apply goM | apply goN | apply goO | with_reducible refine goP ?_)
        all_goals try conv => whnf
        all_goals try (refine Side.mk ?_; try dsimp only)
        · exact ⟨by first | trivial | rfl, hwi, by omega, by omega⟩
        · refine ⟨[], 1, by omega, ?_, by omega⟩
          rw [if_neg (by omega), hnx, hpb]
          refine Go.VG.Sub.mk rfl ?_ ?_ ?_ ?_ <;> (repeat' first | trivial | rfl | exact eqS _ _ | apply andI | apply eqA | apply eqB | apply eqC | apply eqD | apply eqE | apply eqF | apply eqG | apply eqH | apply eqI)
          all_goals first
            | exact hwr
            | (simp only [bl_append, List.append_assoc]; done)
            | skip
      · exfalso; omega
    · obtain ⟨d, rfl⟩ : ∃ e, d = e + 1 := ⟨d - 1, by omega⟩
      repeat' ((conv => whnf); first | with_reducible (first | refine go1 (fun j q h => ?_) fun h => ?_ | refine go2 ⟨rfl, rfl⟩ (fun h => ?_) fun j h => ?_ | refine go2 ?_ (fun h => ?_) fun j h => ?_ | refine goQ ?_ (fun h => ?_) fun h => ?_) | apply go3 | apply go4 | apply go5 | ((first | apply go6 | apply go7 | apply go8 | apply go9 | apply goA) <;> intro h) | with_reducible (first | refine IdxK.mk _ rfl ?_ | refine call_ite (fun h => ?_) fun h => ?_ | refine idx_own ?_ ?_ | refine idx_own0 ?_ ?_ | refine goB ?_ fun hc => ?_ | refine goC ?_ fun hc => ?_ | refine goD ?_ fun hc => ?_ | refine goE ?_ fun hc => ?_ | apply goF | apply goG | refine goH ?_ fun b hb => ?_) | apply goI | apply goJ | apply goK | apply goL | apply goM | apply goN | apply goO | with_reducible refine goP ?_)
      all_goals try conv => whnf
      all_goals try (refine Side.mk ?_; try dsimp only)
      all_goals (try rw [show Int.toNat 0 = 0 from rfl])
      all_goals (try rw [hx])
      · omega
      · exact hlt
      · rfl
      · repeat' ((conv => whnf); first | with_reducible (first | refine go1 (fun j q h => ?_) fun h => ?_ | refine go2 ⟨rfl, rfl⟩ (fun h => ?_) fun j h => ?_ | refine go2 ?_ (fun h => ?_) fun j h => ?_ | refine goQ ?_ (fun h => ?_) fun h => ?_) | apply go3 | apply go4 | apply go5 | ((first | apply go6 | apply go7 | apply go8 | apply go9 | apply goA) <;> intro h) | with_reducible (first | refine IdxK.mk _ rfl ?_ | refine call_ite (fun h => ?_) fun h => ?_ | refine idx_own ?_ ?_ | refine idx_own0 ?_ ?_ | refine goB ?_ fun hc => ?_ | refine goC ?_ fun hc => ?_ | refine goD ?_ fun hc => ?_ | refine goE ?_ fun hc => ?_ | apply goF | apply goG | refine goH ?_ fun b hb => ?_) | apply goI | apply goJ | apply goK | apply goL | apply goM | apply goN | apply goO | with_reducible refine goP ?_)
        all_goals try conv => whnf
        all_goals try (refine Side.mk ?_; try dsimp only)
        refine ⟨97, by show mtP _ _ _; unfold mtP; simp, ?_⟩
        repeat' ((conv => whnf); first | with_reducible (first | refine go1 (fun j q h => ?_) fun h => ?_ | refine go2 ⟨rfl, rfl⟩ (fun h => ?_) fun j h => ?_ | refine go2 ?_ (fun h => ?_) fun j h => ?_ | refine goQ ?_ (fun h => ?_) fun h => ?_) | apply go3 | apply go4 | apply go5 | ((first | apply go6 | apply go7 | apply go8 | apply go9 | apply goA) <;> intro h) | with_reducible (first | refine IdxK.mk _ rfl ?_ | refine call_ite (fun h => ?_) fun h => ?_ | refine idx_own ?_ ?_ | refine idx_own0 ?_ ?_ | refine goB ?_ fun hc => ?_ | refine goC ?_ fun hc => ?_ | refine goD ?_ fun hc => ?_ | refine goE ?_ fun hc => ?_ | apply goF | apply goG | refine goH ?_ fun b hb => ?_) | apply goI | apply goJ | apply goK | apply goL | apply goM | apply goN | apply goO | with_reducible refine goP ?_)
        all_goals try conv => whnf
        all_goals try (refine Side.mk ?_; try dsimp only)
        · exact ⟨by first | trivial | rfl, hk4, hk3, by rw [← hpb]; omega, by omega⟩
        · refine ⟨[], 1, by omega, ?_, by omega⟩
          rw [if_neg (by omega), hnx, hpb]
          refine Go.VG.Sub.mk rfl ?_ ?_ ?_ ?_ <;> (repeat' first | trivial | rfl | exact eqS _ _ | apply andI | apply eqA | apply eqB | apply eqC | apply eqD | apply eqE | apply eqF | apply eqG | apply eqH | apply eqI)
          all_goals first
            | exact hwr
            | (simp only [bl_append, List.append_assoc]; done)
            | skip
      · exfalso; omega
  rw [if_neg hi0]
  by_cases hi2 : i = l.length
  · subst hi2
    rw [List.take_length]
    repeat' ((conv => whnf); first | with_reducible (first | refine go1 (fun j q h => ?_) fun h => ?_ | refine go2 ⟨rfl, rfl⟩ (fun h => ?_) fun j h => ?_ | refine go2 ?_ (fun h => ?_) fun j h => ?_ | refine goQ ?_ (fun h => ?_) fun h => ?_) | apply go3 | apply go4 | apply go5 | ((first | apply go6 | apply go7 | apply go8 | apply go9 | apply goA) <;> intro h) | with_reducible (first | refine IdxK.mk _ rfl ?_ | refine call_ite (fun h => ?_) fun h => ?_ | refine idx_own ?_ ?_ | refine idx_own0 ?_ ?_ | refine goB ?_ fun hc => ?_ | refine goC ?_ fun hc => ?_ | refine goD ?_ fun hc => ?_ | refine goE ?_ fun hc => ?_ | apply goF | apply goG | refine goH ?_ fun b hb => ?_) | apply goI | apply goJ | apply goK | apply goL | apply goM | apply goN | apply goO | with_reducible refine goP ?_)
    all_goals try conv => whnf
    all_goals try (refine Side.mk ?_; try dsimp only)
    all_goals first
      | (exfalso; omega)
      | skip
    refine EndP.mk [] ?_ <;> (repeat' first | trivial | rfl | exact eqS _ _ | apply andI | apply eqA | apply eqB | apply eqC | apply eqD | apply eqE | apply eqF | apply eqG | apply eqH | apply eqI)
  have hlt : i < l.length := by omega
  have hlp := hlp hlt
  have hnx := hnx hlt
  have hwr : IntKind.i64.wrap ((i : Int) + 1) = ((i + 1 : Nat) : Int) := by rw [wi64]; omega
  rcases (pc (hm hlt)).c with ⟨f, hx, ht, hwi, hpb⟩ | ⟨hd0, c', no, k, m, hx, hk1, hk2, hk3, hk4, hpb⟩
  · repeat' ((conv => whnf); first | with_reducible (first | refine go1 (fun j q h => ?_) fun h => ?_ | refine go2 ⟨rfl, rfl⟩ (fun h => ?_) fun j h => ?_ | refine go2 ?_ (fun h => ?_) fun j h => ?_ | refine goQ ?_ (fun h => ?_) fun h => ?_) | apply go3 | apply go4 | apply go5 | ((first | apply go6 | apply go7 | apply go8 | apply go9 | apply goA) <;> intro h) | with_reducible (first | refine IdxK.mk _ rfl ?_ | refine call_ite (fun h => ?_) fun h => ?_ | refine idx_own ?_ ?_ | refine idx_own0 ?_ ?_ | refine goB ?_ fun hc => ?_ | refine goC ?_ fun hc => ?_ | refine goD ?_ fun hc => ?_ | refine goE ?_ fun hc => ?_ | apply goF | apply goG | refine goH ?_ fun b hb => ?_) | apply goI | apply goJ | apply goK | apply goL | apply goM | apply goN | apply goO | with_reducible refine goP ?_)
    all_goals try conv => whnf
    all_goals try (refine Side.mk ?_; try dsimp only)
    all_goals (try rw [show Int.toNat 0 = 0 from rfl])
    all_goals (try rw [hx])
    · omega
    · exact hlt
    · rfl
    · repeat' ((conv => whnf); first | with_reducible (first | refine go1 (fun j q h => ?_) fun h => ?_ | refine go2 ⟨rfl, rfl⟩ (fun h => ?_) fun j h => ?_ | refine go2 ?_ (fun h => ?_) fun j h => ?_ | refine goQ ?_ (fun h => ?_) fun h => ?_) | apply go3 | apply go4 | apply go5 | ((first | apply go6 | apply go7 | apply go8 | apply go9 | apply goA) <;> intro h) | with_reducible (first | refine IdxK.mk _ rfl ?_ | refine call_ite (fun h => ?_) fun h => ?_ | refine idx_own ?_ ?_ | refine idx_own0 ?_ ?_ | refine goB ?_ fun hc => ?_ | refine goC ?_ fun hc => ?_ | refine goD ?_ fun hc => ?_ | refine goE ?_ fun hc => ?_ | apply goF | apply goG | refine goH ?_ fun b hb => ?_) | apply goI | apply goJ | apply goK | apply goL | apply goM | apply goN | apply goO | with_reducible refine goP ?_)
      all_goals try conv => whnf
      all_goals try (refine Side.mk ?_; try dsimp only)
      refine ⟨105, by show mtP _ _ _; unfold mtP; simp, ?_⟩
      repeat' ((conv => whnf); first | with_reducible (first | refine go1 (fun j q h => ?_) fun h => ?_ | refine go2 ⟨rfl, rfl⟩ (fun h => ?_) fun j h => ?_ | refine go2 ?_ (fun h => ?_) fun j h => ?_ | refine goQ ?_ (fun h => ?_) fun h => ?_) | apply go3 | apply go4 | apply go5 | ((first | apply go6 | apply go7 | apply go8 | apply go9 | apply goA) <;> intro h) | with_reducible (first | refine IdxK.mk _ rfl ?_ | refine call_ite (fun h => ?_) fun h => ?_ | refine idx_own ?_ ?_ | refine idx_own0 ?_ ?_ | refine goB ?_ fun hc => ?_ | refine goC ?_ fun hc => ?_ | refine goD ?_ fun hc => ?_ | refine goE ?_ fun hc => ?_ | apply goF | apply goG | refine goH ?_ fun b hb => ?_) | apply goI | apply goJ | apply goK | apply goL | apply goM | apply goN | apply goO | with_reducible refine goP ?_)
      all_goals try conv => whnf
      all_goals try (refine Side.mk ?_; try dsimp only)
      · exact ⟨by first | trivial | rfl, hwi, by omega, by omega⟩
      · refine ⟨[.swap 3 4], i + 1, by omega, ?_, by omega⟩
        rw [if_neg (by omega), hnx, hpb]
        refine Go.VG.Sub.mk rfl ?_ ?_ ?_ ?_ <;> (repeat' first | trivial | rfl | exact eqS _ _ | apply andI | apply eqA | apply eqB | apply eqC | apply eqD | apply eqE | apply eqF | apply eqG | apply eqH | apply eqI)
        all_goals first
          | exact hwr
          | (simp only [bl_append, List.append_assoc]; done)
          | skip
    · exfalso; omega
  · obtain ⟨d, rfl⟩ : ∃ e, d = e + 1 := ⟨d - 1, by omega⟩
    repeat' ((conv => whnf); first | with_reducible (first | refine go1 (fun j q h => ?_) fun h => ?_ | refine go2 ⟨rfl, rfl⟩ (fun h => ?_) fun j h => ?_ | refine go2 ?_ (fun h => ?_) fun j h => ?_ | refine goQ ?_ (fun h => ?_) fun h => ?_) | apply go3 | apply go4 | apply go5 | ((first | apply go6 | apply go7 | apply go8 | apply go9 | apply goA) <;> intro h) | with_reducible (first | refine IdxK.mk _ rfl ?_ | refine call_ite (fun h => ?_) fun h => ?_ | refine idx_own ?_ ?_ | refine idx_own0 ?_ ?_ | refine goB ?_ fun hc => ?_ | refine goC ?_ fun hc => ?_ | refine goD ?_ fun hc => ?_ | refine goE ?_ fun hc => ?_ | apply goF | apply goG | refine goH ?_ fun b hb => ?_) | apply goI | apply goJ | apply goK | apply goL | apply goM | apply goN | apply goO | with_reducible refine goP ?_)
    all_goals try conv => whnf
    all_goals try (refine Side.mk ?_; try dsimp only)
    all_goals (try rw [show Int.toNat 0 = 0 from rfl])
    all_goals (try rw [hx])
    · omega
    · exact hlt
    · rfl
    · repeat' ((conv => whnf); first | with_reducible (first | refine go1 (fun j q h => ?_) fun h => ?_ | refine go2 ⟨rfl, rfl⟩ (fun h => ?_) fun j h => ?_ | refine go2 ?_ (fun h => ?_) fun j h => ?_ | refine goQ ?_ (fun h => ?_) fun h => ?_) | apply go3 | apply go4 | apply go5 | ((first | apply go6 | apply go7 | apply go8 | apply go9 | apply goA) <;> intro h) | with_reducible (first | refine IdxK.mk _ rfl ?_ | refine call_ite (fun h => ?_) fun h => ?_ | refine idx_own ?_ ?_ | refine idx_own0 ?_ ?_ | refine goB ?_ fun hc => ?_ | refine goC ?_ fun hc => ?_ | refine goD ?_ fun hc => ?_ | refine goE ?_ fun hc => ?_ | apply goF | apply goG | refine goH ?_ fun b hb => ?_) | apply goI | apply goJ | apply goK | apply goL | apply goM | apply goN | apply goO | with_reducible refine goP ?_)
      all_goals try conv => whnf
      all_goals try (refine Side.mk ?_; try dsimp only)
      refine ⟨97, by show mtP _ _ _; unfold mtP; simp, ?_⟩
      repeat' ((conv => whnf); first | with_reducible (first | refine go1 (fun j q h => ?_) fun h => ?_ | refine go2 ⟨rfl, rfl⟩ (fun h => ?_) fun j h => ?_ | refine go2 ?_ (fun h => ?_) fun j h => ?_ | refine goQ ?_ (fun h => ?_) fun h => ?_) | apply go3 | apply go4 | apply go5 | ((first | apply go6 | apply go7 | apply go8 | apply go9 | apply goA) <;> intro h) | with_reducible (first | refine IdxK.mk _ rfl ?_ | refine call_ite (fun h => ?_) fun h => ?_ | refine idx_own ?_ ?_ | refine idx_own0 ?_ ?_ | refine goB ?_ fun hc => ?_ | refine goC ?_ fun hc => ?_ | refine goD ?_ fun hc => ?_ | refine goE ?_ fun hc => ?_ | apply goF | apply goG | refine goH ?_ fun b hb => ?_) | apply goI | apply goJ | apply goK | apply goL | apply goM | apply goN | apply goO | with_reducible refine goP ?_)
      all_goals try conv => whnf
      all_goals try (refine Side.mk ?_; try dsimp only)
      · exact ⟨by first | trivial | rfl, hk4, hk3, by rw [← hpb]; omega, by omega⟩
      · refine ⟨[.swap 3 4], i + 1, by omega, ?_, by omega⟩
        rw [if_neg (by omega), hnx, hpb]
        refine Go.VG.Sub.mk rfl ?_ ?_ ?_ ?_ <;> (repeat' first | trivial | rfl | exact eqS _ _ | apply andI | apply eqA | apply eqB | apply eqC | apply eqD | apply eqE | apply eqF | apply eqG | apply eqH | apply eqI)
        all_goals first
          | exact hwr
          | (simp only [bl_append, List.append_assoc]; done)
          | skip
    · exfalso; omega
def sm_ptrL (d : Nat) : Sm := fun args σ => match args, σ with
  | [.ptr 0 0, .buf 1], [.cells [.buf 2, .int .i64 n], .buf 1 0 b, .buf 1 q (v :: l)] => some ((∀ x ∈ (v :: l), OkP d x) ∧ (v :: l).length ≤ 1000000 ∧ b.length + (psB (v :: l)).length ≤ 500000000, .buf 3, some [.cells [.buf 2, .int .i64 n], .buf 1 0 b, .buf 1 q (v :: l), .buf 1 0 (b ++ bl (psB (v :: l)))])
  | [.ptr 0 0, .buf 1], [.cells [.buf 2, .int .i64 n], .buf 1 0 b, .buf 1 q []] => some (True, .buf 1, some [.cells [.buf 2, .int .i64 n], .buf 1 0 b, .buf 1 q []])
  | _, _ => none
theorem k_ptrL (d : Nat) : SOK 30 (sm_ptrL d) := by
  intro args sg pre x r he hp
  unfold sm_ptrL at he
  split at he <;> cases he
  · exact f_ptrL d _ _ _ _ (Nat.succ_pos _) hp.1 hp.2.1 hp.2.2
  · exact f_mxN_2 _ _ _ trivial
/-- a message's bytes -/
theorem f_bytesL (d : Nat) (q : Nat) (l : List V) (hP : ∀ v ∈ l, OkP d v) (h9 : l.length ≤ 1000000) (hb : (psB l).length ≤ 100000000) :
    OK 14 [.ptr 0 0] [.cells [.buf 1, .int .i64 (psB l).length], .buf 1 q l] (.str (psB l)) (some [.cells [.buf 1, .int .i64 (psB l).length], .buf 1 q l]) := by
  cases l with
  | nil =>
    rw [psB_nil]
    refine funOK_of_vc (C := cx [(30, sm_ptrL d)]) (good ⟨k_ptrL d, trivial⟩) (fn := Tryd.f14) rfl rfl rfl rfl fun hw _ => ?_
    repeat' ((conv => whnf); first | with_reducible (first | refine go1 (fun j q h => ?_) fun h => ?_ | refine go2 ⟨rfl, rfl⟩ (fun h => ?_) fun j h => ?_ | refine go2 ?_ (fun h => ?_) fun j h => ?_ | refine goQ ?_ (fun h => ?_) fun h => ?_) | apply go3 | apply go4 | apply go5 | ((first | apply go6 | apply go7 | apply go8 | apply go9 | apply goA) <;> intro h) | with_reducible (first | refine IdxK.mk _ rfl ?_ | refine call_ite (fun h => ?_) fun h => ?_ | refine idx_own ?_ ?_ | refine idx_own0 ?_ ?_ | refine goB ?_ fun hc => ?_ | refine goC ?_ fun hc => ?_ | refine goD ?_ fun hc => ?_ | refine goE ?_ fun hc => ?_ | apply goF | apply goG | refine goH ?_ fun b hb => ?_) | apply goI | apply goJ | apply goK | apply goL | apply goM | apply goN | apply goO | with_reducible refine goP ?_)
    all_goals try conv => whnf
    all_goals try (refine Side.mk ?_; try dsimp only)
    · decide
    · refine ⟨[], rfl, ?_⟩
      repeat' ((conv => whnf); first | with_reducible (first | refine go1 (fun j q h => ?_) fun h => ?_ | refine go2 ⟨rfl, rfl⟩ (fun h => ?_) fun j h => ?_ | refine go2 ?_ (fun h => ?_) fun j h => ?_ | refine goQ ?_ (fun h => ?_) fun h => ?_) | apply go3 | apply go4 | apply go5 | ((first | apply go6 | apply go7 | apply go8 | apply go9 | apply goA) <;> intro h) | with_reducible (first | refine IdxK.mk _ rfl ?_ | refine call_ite (fun h => ?_) fun h => ?_ | refine idx_own ?_ ?_ | refine idx_own0 ?_ ?_ | refine goB ?_ fun hc => ?_ | refine goC ?_ fun hc => ?_ | refine goD ?_ fun hc => ?_ | refine goE ?_ fun hc => ?_ | apply goF | apply goG | refine goH ?_ fun b hb => ?_) | apply goI | apply goJ | apply goK | apply goL | apply goM | apply goN | apply goO | with_reducible refine goP ?_)
      all_goals try conv => whnf
      all_goals try (refine Side.mk ?_; try dsimp only)
      refine EndP.mk [] ?_ <;> (repeat' first | trivial | rfl | exact eqS _ _ | apply andI | apply eqA | apply eqB | apply eqC | apply eqD | apply eqE | apply eqF | apply eqG | apply eqH | apply eqI)
  | cons v l =>
    generalize hm : psB (v :: l) = M at *
    refine funOK_of_vc (C := cx [(30, sm_ptrL d)]) (good ⟨k_ptrL d, trivial⟩) (fn := Tryd.f14) rfl rfl rfl rfl fun hw _ => ?_
    repeat' ((conv => whnf); first | with_reducible (first | refine go1 (fun j q h => ?_) fun h => ?_ | refine go2 ⟨rfl, rfl⟩ (fun h => ?_) fun j h => ?_ | refine go2 ?_ (fun h => ?_) fun j h => ?_ | refine goQ ?_ (fun h => ?_) fun h => ?_) | apply go3 | apply go4 | apply go5 | ((first | apply go6 | apply go7 | apply go8 | apply go9 | apply goA) <;> intro h) | with_reducible (first | refine IdxK.mk _ rfl ?_ | refine call_ite (fun h => ?_) fun h => ?_ | refine idx_own ?_ ?_ | refine idx_own0 ?_ ?_ | refine goB ?_ fun hc => ?_ | refine goC ?_ fun hc => ?_ | refine goD ?_ fun hc => ?_ | refine goE ?_ fun hc => ?_ | apply goF | apply goG | refine goH ?_ fun b hb => ?_) | apply goI | apply goJ | apply goK | apply goL | apply goM | apply goN | apply goO | with_reducible refine goP ?_)
    all_goals try conv => whnf
    all_goals try (refine Side.mk ?_; try dsimp only)
    · exact ⟨by omega, by omega, by omega⟩
    · exact ⟨hP, h9, by rw [hm]; simp; omega⟩
    · refine EndP.mk [] ?_ <;> (repeat' first | trivial | rfl | exact eqS _ _ | apply andI | apply eqA | apply eqB | apply eqC | apply eqD | apply eqE | apply eqF | apply eqG | apply eqH | apply eqI)
end Go.Proofs.YtkkfdkfopdjomaaDoor
