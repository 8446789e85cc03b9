/-
  A message that is written: a message within it is laid.
-/
import Derived.Test.YtgiocgghmlmgfaaDoorMWc
set_option linter.unusedSimpArgs false
set_option linter.unusedVariables false
set_option maxHeartbeats 4000000
namespace Go.Proofs.YtgiocgghmlmgfaaDoor
open Go Go.VG
set_option maxRecDepth 100000
def decIf : V → Pf
  | .iface _ (.agg [.int _ n, .int _ w, .int _ u, .str t]) => ⟨n, w, u, t⟩
  | _ => default
theorem decIf_map (fs : List Pf) : (eFs fs).map decIf = fs := by
  unfold eFs
  induction fs with
  | nil => rfl
  | cons f fs ih => rw [List.map_cons, List.map_cons, ih]; rfl
def sm_layB : Sm := fun args σ => match args, σ with
  | [.box [.list false 1 l, .int .i64 _] 0, .buf 0], [.buf 1 0 b] => some (l = eFs (l.map decIf) ∧ 0 < l.length ∧ (∀ f ∈ l.map decIf, f.text.length ≤ 1000000) ∧ (∀ i, (b ++ bl (fldsB ((l.map decIf).take i))).length ≤ 800000000), .buf 1, some [.buf 1 0 b, .buf 1 0 (b ++ bl (fldsB (l.map decIf)))])
  | _, _ => none
theorem k_layB : SOK 21 sm_layB := by
  intro args sg pre x r he hp
  unfold sm_layB at he
  split at he <;> cases he
  rename_i l n b
  obtain ⟨h1, h2, h3, h4⟩ := hp
  have := f_layB (l.map decIf) n b (by rw [List.length_map]; exact h2) h3 h4
  rw [← h1] at this
  exact this
theorem f_layN_1 (b : List V) (n : Int) (hp : True) : OK 21 ([.box [.list false 1 [], .int .i64 n] 0, .buf 0]) ([.buf 1 0 b]) (.buf 0) (some [.buf 1 0 b]) := by
  refine funOK_of_vc (C := cx []) (good trivial) (fn := Tryd.f21) rfl rfl rfl rfl fun hw hs => ?_
  repeat' ((conv => whnf); first | with_reducible (first | refine go1 (fun j q h => ?_) fun h => ?_ | refine go2 ⟨rfl, rfl⟩ (fun h => ?_) fun j h => ?_ | refine go2 ?_ (fun h => ?_) fun j h => ?_ | refine goQ ?_ (fun h => ?_) fun h => ?_) | apply go3 | apply go4 | apply go5 | ((first | apply go6 | apply go7 | apply go8 | apply go9 | apply goA) <;> intro h) | with_reducible (first | refine IdxK.mk _ rfl ?_ | refine call_ite (fun h => ?_) fun h => ?_ | refine goB ?_ fun hc => ?_ | refine goC ?_ fun hc => ?_ | refine goD ?_ fun hc => ?_ | refine goE ?_ fun hc => ?_ | apply goF | apply goG | refine goH ?_ fun b hb => ?_) | apply goI | apply goJ | apply goK | apply goL | apply goM | apply goN | apply goO | with_reducible refine goP ?_)
  all_goals try conv => whnf
  all_goals try (refine Side.mk ?_; try dsimp only)
  refine LoopP.mk Nat (fun i => i = 0) (fun _ => ⟨21, [(1, .buf 0), (10, .list false 1 []), (11, .int .i64 0), (12, .int .i64 0)], [.buf 1 0 b], []⟩) (fun _ => 0) [] 0 rfl ?_ (fun i hi _ _ => ?_)
  · refine Go.VG.Sub.mk rfl ?_ ?_ ?_ ?_ <;> (repeat' first | trivial | rfl | exact eqS _ _ | apply andI | apply eqA | apply eqB | apply eqC | apply eqD | apply eqE | apply eqF | apply eqG | apply eqH | apply eqI)
  repeat' ((conv => whnf); first | with_reducible (first | refine go1 (fun j q h => ?_) fun h => ?_ | refine go2 ⟨rfl, rfl⟩ (fun h => ?_) fun j h => ?_ | refine go2 ?_ (fun h => ?_) fun j h => ?_ | refine goQ ?_ (fun h => ?_) fun h => ?_) | apply go3 | apply go4 | apply go5 | ((first | apply go6 | apply go7 | apply go8 | apply go9 | apply goA) <;> intro h) | with_reducible (first | refine IdxK.mk _ rfl ?_ | refine call_ite (fun h => ?_) fun h => ?_ | refine goB ?_ fun hc => ?_ | refine goC ?_ fun hc => ?_ | refine goD ?_ fun hc => ?_ | refine goE ?_ fun hc => ?_ | apply goF | apply goG | refine goH ?_ fun b hb => ?_) | apply goI | apply goJ | apply goK | apply goL | apply goM | apply goN | apply goO | with_reducible refine goP ?_)
  all_goals try conv => whnf
  all_goals try (refine Side.mk ?_; try dsimp only)
  refine EndP.mk [] ?_ <;> (repeat' first | trivial | rfl | exact eqS _ _ | apply andI | apply eqA | apply eqB | apply eqC | apply eqD | apply eqE | apply eqF | apply eqG | apply eqH | apply eqI)
def sm_layN : Sm := fun args σ => match args, σ with
  | [.box [.list false 1 [], .int .i64 n] 0, .buf 0], [.buf 1 0 b] => some (True, .buf 0, some [.buf 1 0 b])
  | _, _ => none
theorem k_layN : SOK 21 sm_layN := by
  intro args sg pre x r he hp
  unfold sm_layN at he
  split at he <;> cases he
  · exact f_layN_1 (hp := hp) ..
theorem f_miLay (no : Int) (n : Nat) (fs : List Pf) (b : List V) (h0 : 0 < fs.length) (hf : ∀ f ∈ fs, f.text.length ≤ 1000000) (hb : b.length ≤ 700000000) (hn : n ≤ 100000000) (hl : ∀ i, (fldsB (fs.take i)).length ≤ 90000000) :
    OK 64 [.agg [.int .i64 no, .int .i64 2, .box [.list false 1 (eFs fs), .int .i64 n] 0, .int .i64 n], .buf 0] [.buf 1 0 b] (.buf 1) (some [.buf 1 0 b, .buf 1 0 (b ++ bl (tagB no 2 ++ (vput n ++ fldsB fs)))]) := by
  refine funOK_of_vc (C := cx [(22, sm_pTagPut), (26, sm_vPut), (21, sm_layB)]) (good ⟨k_pTagPut, k_vPut, k_layB, trivial⟩) (fn := Tryd.f64) rfl rfl rfl rfl fun hw _ => ?_
  have ht := tagB_len no 2
  have h4 := vput_len (u := n) (by omega)
  have hw2 : IntKind.u64.wrap (n : Int) = n := by rw [wu64]; omega
  have hd := decIf_map fs
  repeat' ((conv => whnf); first | with_reducible (first | refine go1 (fun j q h => ?_) fun h => ?_ | refine go2 ⟨rfl, rfl⟩ (fun h => ?_) fun j h => ?_ | refine go2 ?_ (fun h => ?_) fun j h => ?_ | refine goQ ?_ (fun h => ?_) fun h => ?_) | apply go3 | apply go4 | apply go5 | ((first | apply go6 | apply go7 | apply go8 | apply go9 | apply goA) <;> intro h) | with_reducible (first | refine IdxK.mk _ rfl ?_ | refine call_ite (fun h => ?_) fun h => ?_ | refine goB ?_ fun hc => ?_ | refine goC ?_ fun hc => ?_ | refine goD ?_ fun hc => ?_ | refine goE ?_ fun hc => ?_ | apply goF | apply goG | refine goH ?_ fun b hb => ?_) | apply goI | apply goJ | apply goK | apply goL | apply goM | apply goN | apply goO | with_reducible refine goP ?_)
  all_goals try conv => whnf
  all_goals try (refine Side.mk ?_; try dsimp only)
  all_goals (try simp only [hw2, hd, Int.toNat_natCast] at *)
  · omega
  · exact ⟨by omega, by rw [List.length_append, bl_length]; omega⟩
  · exact ⟨trivial, by unfold eFs; rw [List.length_map]; exact h0, hf, fun i => by have := hl i; simp only [List.length_append, bl_length]; omega⟩
  · refine EndP.mk [.swap 1 4] ?_ <;> (repeat' first | trivial | rfl | exact eqS _ _ | apply andI | apply eqA | apply eqB | apply eqC | apply eqD | apply eqE | apply eqF | apply eqG | apply eqH | apply eqI)
    simp only [bl_append, List.append_assoc]
theorem f_miLayN (no : Int) (n : Nat) (b : List V) (hb : b.length ≤ 700000000) (hn : n ≤ 100000000) :
    OK 64 [.agg [.int .i64 no, .int .i64 2, .box [.list false 1 [], .int .i64 n] 0, .int .i64 n], .buf 0] [.buf 1 0 b] (.buf 1) (some [.buf 1 0 b, .buf 1 0 (b ++ bl (tagB no 2 ++ vput n))]) := by
  refine funOK_of_vc (C := cx [(22, sm_pTagPut), (26, sm_vPut), (21, sm_layN)]) (good ⟨k_pTagPut, k_vPut, k_layN, trivial⟩) (fn := Tryd.f64) rfl rfl rfl rfl fun hw _ => ?_
  have ht := tagB_len no 2
  have h4 := vput_len (u := n) (by omega)
  have hw2 : IntKind.u64.wrap (n : Int) = n := by rw [wu64]; omega
  repeat' ((conv => whnf); first | with_reducible (first | refine go1 (fun j q h => ?_) fun h => ?_ | refine go2 ⟨rfl, rfl⟩ (fun h => ?_) fun j h => ?_ | refine go2 ?_ (fun h => ?_) fun j h => ?_ | refine goQ ?_ (fun h => ?_) fun h => ?_) | apply go3 | apply go4 | apply go5 | ((first | apply go6 | apply go7 | apply go8 | apply go9 | apply goA) <;> intro h) | with_reducible (first | refine IdxK.mk _ rfl ?_ | refine call_ite (fun h => ?_) fun h => ?_ | refine goB ?_ fun hc => ?_ | refine goC ?_ fun hc => ?_ | refine goD ?_ fun hc => ?_ | refine goE ?_ fun hc => ?_ | apply goF | apply goG | refine goH ?_ fun b hb => ?_) | apply goI | apply goJ | apply goK | apply goL | apply goM | apply goN | apply goO | with_reducible refine goP ?_)
  all_goals try conv => whnf
  all_goals try (refine Side.mk ?_; try dsimp only)
  all_goals (try simp only [hw2, Int.toNat_natCast] at *)
  · omega
  · exact ⟨by omega, by rw [List.length_append, bl_length]; omega⟩
  · refine EndP.mk [.swap 1 3] ?_ <;> (repeat' first | trivial | rfl | exact eqS _ _ | apply andI | apply eqA | apply eqB | apply eqC | apply eqD | apply eqE | apply eqF | apply eqG | apply eqH | apply eqI)
    simp only [bl_append, List.append_assoc]
def sm_miLay : Sm := fun args σ => match args, σ with
  | [.agg [.int .i64 no, .int .i64 2, .box [.list false 1 l, .int .i64 (.ofNat n)] 0, .int .i64 (.ofNat m)], .buf 0], [.buf 1 0 b] => some (m = n ∧ l = eFs (l.map decIf) ∧ (∀ f ∈ l.map decIf, f.text.length ≤ 1000000) ∧ b.length ≤ 700000000 ∧ n ≤ 100000000 ∧ (∀ i, (fldsB ((l.map decIf).take i)).length ≤ 90000000), .buf 1, some [.buf 1 0 b, .buf 1 0 (b ++ bl (tagB no 2 ++ (vput n ++ fldsB (l.map decIf))))])
  | _, _ => none
theorem k_miLay : SOK 64 sm_miLay := by
  intro args sg pre x r he hp
  unfold sm_miLay at he
  split at he <;> cases he
  rename_i no l n m b
  obtain ⟨rfl, h1, h2, h3, h4, h5⟩ := hp
  cases l with
  | nil =>
    have := f_miLayN no m b h3 h4
    rw [show fldsB (([] : List V).map decIf) = [] from rfl, List.append_nil]
    exact this
  | cons v l =>
    have := f_miLay no m ((v :: l).map decIf) b (by simp) h2 h3 h4 h5
    rw [← h1] at this
    exact this
/-- what a part may be -/
structure PtOk (p : Pt) : Prop where
  f : okF p.fld
  t : p.f.text.length ≤ 1000000
  k : ∀ f ∈ p.fs, f.text.length ≤ 1000000
  m : (fldsB p.fs).length ≤ 90000000
  i : ∀ i, (fldsB (p.fs.take i)).length ≤ 90000000
theorem msgB_next {l : List Pt} {i : Nat} (h : i < l.length) : msgB (l.take (i + 1)) = msgB (l.take i) ++ fldB (l.getD i default).fld := by
  rw [List.take_add_one, List.getD_eq_getElem?_getD, List.getElem?_eq_getElem h]
  unfold msgB fldsB
  rw [List.map_append, List.map_append, List.flatten_append]; simp
theorem ePt_s {p : Pt} (h : p.sub = true) : ePt p = .iface 63 (.agg [.int .i64 p.f.no, .int .i64 2, .box [.list false 1 (eFs p.fs), .int .i64 (fldsB p.fs).length] 0, .int .i64 (fldsB p.fs).length]) := if_pos h
theorem ePt_f {p : Pt} (h : ¬ p.sub = true) : ePt p = .iface 76 (ePf p.f) := if_neg h
theorem fld_s {p : Pt} (h : p.sub = true) (hm : okF p.fld) : fldB p.fld = tagB p.f.no 2 ++ (vput (fldsB p.fs).length ++ fldsB p.fs) := by
  have e : p.fld = ⟨p.f.no, 2, 0, fldsB p.fs⟩ := if_pos h
  rw [e] at hm ⊢
  have h1 : mayT p.f.no 2 = true := hm.1
  unfold fldB conB
  dsimp only
  rw [if_pos h1, if_neg (by decide), if_neg (by decide), if_pos rfl]
theorem fld_f {p : Pt} (h : ¬ p.sub = true) : p.fld = p.f := if_neg h
theorem f_lay (l : List Pt) (n : Int) (b : List V) (h0 : 0 < l.length) (hp : ∀ p ∈ l, PtOk p) (hl : ∀ i, (b ++ bl (msgB (l.take i))).length ≤ 600000000) (h9 : l.length ≤ 1000000) :
    OK 21 [.ptr 0 0, .buf 1] [.cells [.buf 2, .int .i64 n], .buf 1 0 b, .buf 1 0 (l.map ePt)] (.buf 3) (some [.cells [.buf 2, .int .i64 n], .buf 1 0 b, .buf 1 0 (l.map ePt), .buf 1 0 (b ++ bl (msgB l))]) := by
  refine funOK_of_vc (C := cxz [(67, sm_mfLay), (64, sm_miLay)] []) (goodz ⟨k_mfLay, k_miLay, trivial⟩) (fn := Tryd.f21) rfl rfl rfl rfl fun hw _ => ?_
  have e1 : (l.map ePt).length = l.length := by simp
  repeat' ((conv => whnf); first | with_reducible (first | refine go1 (fun j q h => ?_) fun h => ?_ | refine go2 ⟨rfl, rfl⟩ (fun h => ?_) fun j h => ?_ | refine go2 ?_ (fun h => ?_) fun j h => ?_ | refine goQ ?_ (fun h => ?_) fun h => ?_) | apply go3 | apply go4 | apply go5 | ((first | apply go6 | apply go7 | apply go8 | apply go9 | apply goA) <;> intro h) | with_reducible (first | refine IdxK.mk _ rfl ?_ | refine call_ite (fun h => ?_) fun h => ?_ | refine goB ?_ fun hc => ?_ | refine goC ?_ fun hc => ?_ | refine goD ?_ fun hc => ?_ | refine goE ?_ fun hc => ?_ | apply goF | apply goG | refine goH ?_ fun b hb => ?_) | apply goI | apply goJ | apply goK | apply goL | apply goM | apply goN | apply goO | with_reducible refine goP ?_)
  all_goals try conv => whnf
  all_goals try (refine Side.mk ?_; try dsimp only)
  refine LoopP.mk Nat (fun i => i ≤ l.length) (fun i => if i = 0 then ⟨21, [(1, .buf 1), (10, .buf 2), (11, .int .i64 l.length), (12, .int .i64 0)], [.cells [.buf 2, .int .i64 n], .buf 1 0 b, .buf 1 0 (l.map ePt)], []⟩ else ⟨21, [(1, .buf 3), (10, .buf 2), (11, .int .i64 l.length), (12, .int .i64 i)], [.cells [.buf 2, .int .i64 n], .buf 1 0 b, .buf 1 0 (l.map ePt), .buf 1 0 (b ++ bl (msgB (l.take i)))], [1, 3, 4]⟩) (fun i => l.length - i) [] 0 (Nat.zero_le _) ?_ (fun i hi _ _ => ?_)
  · rw [if_pos rfl]
    refine Go.VG.Sub.mk rfl ?_ ?_ ?_ ?_ <;> (repeat' first | trivial | rfl | exact eqS _ _ | apply andI | apply eqA | apply eqB | apply eqC | apply eqD | apply eqE | apply eqF | apply eqG | apply eqH | apply eqI)
    rw [e1]
  have hm : i < l.length → PtOk (l.getD i default) := fun h => hp _ (by rw [List.getD_eq_getElem?_getD, List.getElem?_eq_getElem h]; exact List.getElem_mem h)
  have hli := hl i
  by_cases hi0 : i = 0
  · subst hi0
    rw [if_pos rfl]
    have hb0 : b.length ≤ 700000000 := by have := hl 0; rw [List.length_append] at this; omega
    have hn0 : msgB (l.take 1) = fldB (l.getD 0 default).fld := msgB_next (i := 0) h0
    have hP := hm h0
    by_cases hs : (l.getD 0 default).sub = true
    · have hx := ePt_s hs
      have hF := fld_s hs hP.f
      repeat' ((conv => whnf); first | with_reducible (first | refine go1 (fun j q h => ?_) fun h => ?_ | refine go2 ⟨rfl, rfl⟩ (fun h => ?_) fun j h => ?_ | refine go2 ?_ (fun h => ?_) fun j h => ?_ | refine goQ ?_ (fun h => ?_) fun h => ?_) | apply go3 | apply go4 | apply go5 | ((first | apply go6 | apply go7 | apply go8 | apply go9 | apply goA) <;> intro h) | with_reducible (first | refine IdxK.mk _ rfl ?_ | refine call_ite (fun h => ?_) fun h => ?_ | refine goB ?_ fun hc => ?_ | refine goC ?_ fun hc => ?_ | refine goD ?_ fun hc => ?_ | refine goE ?_ fun hc => ?_ | apply goF | apply goG | refine goH ?_ fun b hb => ?_) | apply goI | apply goJ | apply goK | apply goL | apply goM | apply goN | apply goO | with_reducible refine goP ?_)
      all_goals try conv => whnf
      all_goals try (refine Side.mk ?_; try dsimp only)
      · exact ⟨Int.le_refl 0, by omega⟩
      · exact h0
      · rw [show Int.toNat 0 = 0 from rfl, hx]; rfl
      · rw [show Int.toNat 0 = 0 from rfl, hx]
        repeat' ((conv => whnf); first | with_reducible (first | refine go1 (fun j q h => ?_) fun h => ?_ | refine go2 ⟨rfl, rfl⟩ (fun h => ?_) fun j h => ?_ | refine go2 ?_ (fun h => ?_) fun j h => ?_ | refine goQ ?_ (fun h => ?_) fun h => ?_) | apply go3 | apply go4 | apply go5 | ((first | apply go6 | apply go7 | apply go8 | apply go9 | apply goA) <;> intro h) | with_reducible (first | refine IdxK.mk _ rfl ?_ | refine call_ite (fun h => ?_) fun h => ?_ | refine goB ?_ fun hc => ?_ | refine goC ?_ fun hc => ?_ | refine goD ?_ fun hc => ?_ | refine goE ?_ fun hc => ?_ | apply goF | apply goG | refine goH ?_ fun b hb => ?_) | apply goI | apply goJ | apply goK | apply goL | apply goM | apply goN | apply goO | with_reducible refine goP ?_)
        all_goals try conv => whnf
        all_goals try (refine Side.mk ?_; try dsimp only)
        refine ⟨64, by show mtP _ _ _; unfold mtP; simp, ?_⟩
        repeat' ((conv => whnf); first | with_reducible (first | refine go1 (fun j q h => ?_) fun h => ?_ | refine go2 ⟨rfl, rfl⟩ (fun h => ?_) fun j h => ?_ | refine go2 ?_ (fun h => ?_) fun j h => ?_ | refine goQ ?_ (fun h => ?_) fun h => ?_) | apply go3 | apply go4 | apply go5 | ((first | apply go6 | apply go7 | apply go8 | apply go9 | apply goA) <;> intro h) | with_reducible (first | refine IdxK.mk _ rfl ?_ | refine call_ite (fun h => ?_) fun h => ?_ | refine goB ?_ fun hc => ?_ | refine goC ?_ fun hc => ?_ | refine goD ?_ fun hc => ?_ | refine goE ?_ fun hc => ?_ | apply goF | apply goG | refine goH ?_ fun b hb => ?_) | apply goI | apply goJ | apply goK | apply goL | apply goM | apply goN | apply goO | with_reducible refine goP ?_)
        all_goals try conv => whnf
        all_goals try (refine Side.mk ?_; try dsimp only)
        all_goals (try simp only [decIf_map] at *)
        · exact ⟨trivial, trivial, hP.k, hb0, by have := hP.m; omega, hP.i⟩
        · refine ⟨[], 1, by omega, ?_, by omega⟩
          rw [if_neg (by decide)]
          refine Go.VG.Sub.mk rfl ?_ ?_ ?_ ?_ <;> (repeat' first | trivial | rfl | exact eqS _ _ | apply andI | apply eqA | apply eqB | apply eqC | apply eqD | apply eqE | apply eqF | apply eqG | apply eqH | apply eqI)
          rw [hn0, hF]
      · exfalso; omega
    have hx := ePt_f hs
    have hF := fld_f hs
    repeat' ((conv => whnf); first | with_reducible (first | refine go1 (fun j q h => ?_) fun h => ?_ | refine go2 ⟨rfl, rfl⟩ (fun h => ?_) fun j h => ?_ | refine go2 ?_ (fun h => ?_) fun j h => ?_ | refine goQ ?_ (fun h => ?_) fun h => ?_) | apply go3 | apply go4 | apply go5 | ((first | apply go6 | apply go7 | apply go8 | apply go9 | apply goA) <;> intro h) | with_reducible (first | refine IdxK.mk _ rfl ?_ | refine call_ite (fun h => ?_) fun h => ?_ | refine goB ?_ fun hc => ?_ | refine goC ?_ fun hc => ?_ | refine goD ?_ fun hc => ?_ | refine goE ?_ fun hc => ?_ | apply goF | apply goG | refine goH ?_ fun b hb => ?_) | apply goI | apply goJ | apply goK | apply goL | apply goM | apply goN | apply goO | with_reducible refine goP ?_)
    all_goals try conv => whnf
    all_goals try (refine Side.mk ?_; try dsimp only)
    · exact ⟨Int.le_refl 0, by omega⟩
    · exact h0
    · rw [show Int.toNat 0 = 0 from rfl, hx]; rfl
    · rw [show Int.toNat 0 = 0 from rfl, hx]
      repeat' ((conv => whnf); first | with_reducible (first | refine go1 (fun j q h => ?_) fun h => ?_ | refine go2 ⟨rfl, rfl⟩ (fun h => ?_) fun j h => ?_ | refine go2 ?_ (fun h => ?_) fun j h => ?_ | refine goQ ?_ (fun h => ?_) fun h => ?_) | apply go3 | apply go4 | apply go5 | ((first | apply go6 | apply go7 | apply go8 | apply go9 | apply goA) <;> intro h) | with_reducible (first | refine IdxK.mk _ rfl ?_ | refine call_ite (fun h => ?_) fun h => ?_ | refine goB ?_ fun hc => ?_ | refine goC ?_ fun hc => ?_ | refine goD ?_ fun hc => ?_ | refine goE ?_ fun hc => ?_ | apply goF | apply goG | refine goH ?_ fun b hb => ?_) | apply goI | apply goJ | apply goK | apply goL | apply goM | apply goN | apply goO | with_reducible refine goP ?_)
      all_goals try conv => whnf
      all_goals try (refine Side.mk ?_; try dsimp only)
      refine ⟨67, by show mtP _ _ _; unfold mtP; simp, ?_⟩
      repeat' ((conv => whnf); first | with_reducible (first | refine go1 (fun j q h => ?_) fun h => ?_ | refine go2 ⟨rfl, rfl⟩ (fun h => ?_) fun j h => ?_ | refine go2 ?_ (fun h => ?_) fun j h => ?_ | refine goQ ?_ (fun h => ?_) fun h => ?_) | apply go3 | apply go4 | apply go5 | ((first | apply go6 | apply go7 | apply go8 | apply go9 | apply goA) <;> intro h) | with_reducible (first | refine IdxK.mk _ rfl ?_ | refine call_ite (fun h => ?_) fun h => ?_ | refine goB ?_ fun hc => ?_ | refine goC ?_ fun hc => ?_ | refine goD ?_ fun hc => ?_ | refine goE ?_ fun hc => ?_ | apply goF | apply goG | refine goH ?_ fun b hb => ?_) | apply goI | apply goJ | apply goK | apply goL | apply goM | apply goN | apply goO | with_reducible refine goP ?_)
      all_goals try conv => whnf
      all_goals try (refine Side.mk ?_; try dsimp only)
      · exact ⟨trivial, by omega, Nat.le_trans hP.t (by decide)⟩
      · refine ⟨[], 1, by omega, ?_, by omega⟩
        rw [if_neg (by decide)]
        refine Go.VG.Sub.mk rfl ?_ ?_ ?_ ?_ <;> (repeat' first | trivial | rfl | exact eqS _ _ | apply andI | apply eqA | apply eqB | apply eqC | apply eqD | apply eqE | apply eqF | apply eqG | apply eqH | apply eqI)
        rw [hn0, hF]
    · exfalso; omega
  rw [if_neg hi0]
  by_cases hi2 : i = l.length
  · subst hi2
    rw [List.take_length]
    repeat' ((conv => whnf); first | with_reducible (first | refine go1 (fun j q h => ?_) fun h => ?_ | refine go2 ⟨rfl, rfl⟩ (fun h => ?_) fun j h => ?_ | refine go2 ?_ (fun h => ?_) fun j h => ?_ | refine goQ ?_ (fun h => ?_) fun h => ?_) | apply go3 | apply go4 | apply go5 | ((first | apply go6 | apply go7 | apply go8 | apply go9 | apply goA) <;> intro h) | with_reducible (first | refine IdxK.mk _ rfl ?_ | refine call_ite (fun h => ?_) fun h => ?_ | refine goB ?_ fun hc => ?_ | refine goC ?_ fun hc => ?_ | refine goD ?_ fun hc => ?_ | refine goE ?_ fun hc => ?_ | apply goF | apply goG | refine goH ?_ fun b hb => ?_) | apply goI | apply goJ | apply goK | apply goL | apply goM | apply goN | apply goO | with_reducible refine goP ?_)
    all_goals try conv => whnf
    all_goals try (refine Side.mk ?_; try dsimp only)
    · exfalso; omega
    · exfalso; omega
    · exfalso; omega
    · exfalso; omega
    refine EndP.mk [] ?_ <;> (repeat' first | trivial | rfl | exact eqS _ _ | apply andI | apply eqA | apply eqB | apply eqC | apply eqD | apply eqE | apply eqF | apply eqG | apply eqH | apply eqI)
  have hlt : i < l.length := by omega
  have hn0 : msgB (l.take (i + 1)) = msgB (l.take i) ++ fldB (l.getD i default).fld := msgB_next hlt
  have hP := hm hlt
  have hwi : IntKind.i64.wrap ((i : Int) + 1) = ((i + 1 : Nat) : Int) := by rw [wi64]; omega
  by_cases hs : (l.getD i default).sub = true
  · have hx := ePt_s hs
    have hF := fld_s hs hP.f
    repeat' ((conv => whnf); first | with_reducible (first | refine go1 (fun j q h => ?_) fun h => ?_ | refine go2 ⟨rfl, rfl⟩ (fun h => ?_) fun j h => ?_ | refine go2 ?_ (fun h => ?_) fun j h => ?_ | refine goQ ?_ (fun h => ?_) fun h => ?_) | apply go3 | apply go4 | apply go5 | ((first | apply go6 | apply go7 | apply go8 | apply go9 | apply goA) <;> intro h) | with_reducible (first | refine IdxK.mk _ rfl ?_ | refine call_ite (fun h => ?_) fun h => ?_ | refine goB ?_ fun hc => ?_ | refine goC ?_ fun hc => ?_ | refine goD ?_ fun hc => ?_ | refine goE ?_ fun hc => ?_ | apply goF | apply goG | refine goH ?_ fun b hb => ?_) | apply goI | apply goJ | apply goK | apply goL | apply goM | apply goN | apply goO | with_reducible refine goP ?_)
    all_goals try conv => whnf
    all_goals try (refine Side.mk ?_; try dsimp only)
    · omega
    · exact hlt
    · rw [hx]; rfl
    · rw [hx]
      repeat' ((conv => whnf); first | with_reducible (first | refine go1 (fun j q h => ?_) fun h => ?_ | refine go2 ⟨rfl, rfl⟩ (fun h => ?_) fun j h => ?_ | refine go2 ?_ (fun h => ?_) fun j h => ?_ | refine goQ ?_ (fun h => ?_) fun h => ?_) | apply go3 | apply go4 | apply go5 | ((first | apply go6 | apply go7 | apply go8 | apply go9 | apply goA) <;> intro h) | with_reducible (first | refine IdxK.mk _ rfl ?_ | refine call_ite (fun h => ?_) fun h => ?_ | refine goB ?_ fun hc => ?_ | refine goC ?_ fun hc => ?_ | refine goD ?_ fun hc => ?_ | refine goE ?_ fun hc => ?_ | apply goF | apply goG | refine goH ?_ fun b hb => ?_) | apply goI | apply goJ | apply goK | apply goL | apply goM | apply goN | apply goO | with_reducible refine goP ?_)
      all_goals try conv => whnf
      all_goals try (refine Side.mk ?_; try dsimp only)
      refine ⟨64, by show mtP _ _ _; unfold mtP; simp, ?_⟩
      repeat' ((conv => whnf); first | with_reducible (first | refine go1 (fun j q h => ?_) fun h => ?_ | refine go2 ⟨rfl, rfl⟩ (fun h => ?_) fun j h => ?_ | refine go2 ?_ (fun h => ?_) fun j h => ?_ | refine goQ ?_ (fun h => ?_) fun h => ?_) | apply go3 | apply go4 | apply go5 | ((first | apply go6 | apply go7 | apply go8 | apply go9 | apply goA) <;> intro h) | with_reducible (first | refine IdxK.mk _ rfl ?_ | refine call_ite (fun h => ?_) fun h => ?_ | refine goB ?_ fun hc => ?_ | refine goC ?_ fun hc => ?_ | refine goD ?_ fun hc => ?_ | refine goE ?_ fun hc => ?_ | apply goF | apply goG | refine goH ?_ fun b hb => ?_) | apply goI | apply goJ | apply goK | apply goL | apply goM | apply goN | apply goO | with_reducible refine goP ?_)
      all_goals try conv => whnf
      all_goals try (refine Side.mk ?_; try dsimp only)
      all_goals (try simp only [decIf_map] at *)
      · exact ⟨trivial, trivial, hP.k, by omega, by have := hP.m; omega, hP.i⟩
      · refine ⟨[.swap 3 4], i + 1, by omega, ?_, by omega⟩
        rw [if_neg (by omega), hwi]
        refine Go.VG.Sub.mk rfl ?_ ?_ ?_ ?_ <;> (repeat' first | trivial | rfl | exact eqS _ _ | apply andI | apply eqA | apply eqB | apply eqC | apply eqD | apply eqE | apply eqF | apply eqG | apply eqH | apply eqI)
        rw [hn0, hF]
        simp only [bl_append, List.append_assoc]
    · exfalso; omega
  have hx := ePt_f hs
  have hF := fld_f hs
  repeat' ((conv => whnf); first | with_reducible (first | refine go1 (fun j q h => ?_) fun h => ?_ | refine go2 ⟨rfl, rfl⟩ (fun h => ?_) fun j h => ?_ | refine go2 ?_ (fun h => ?_) fun j h => ?_ | refine goQ ?_ (fun h => ?_) fun h => ?_) | apply go3 | apply go4 | apply go5 | ((first | apply go6 | apply go7 | apply go8 | apply go9 | apply goA) <;> intro h) | with_reducible (first | refine IdxK.mk _ rfl ?_ | refine call_ite (fun h => ?_) fun h => ?_ | refine goB ?_ fun hc => ?_ | refine goC ?_ fun hc => ?_ | refine goD ?_ fun hc => ?_ | refine goE ?_ fun hc => ?_ | apply goF | apply goG | refine goH ?_ fun b hb => ?_) | apply goI | apply goJ | apply goK | apply goL | apply goM | apply goN | apply goO | with_reducible refine goP ?_)
  all_goals try conv => whnf
  all_goals try (refine Side.mk ?_; try dsimp only)
  · omega
  · exact hlt
  · rw [hx]; rfl
  · rw [hx]
    repeat' ((conv => whnf); first | with_reducible (first | refine go1 (fun j q h => ?_) fun h => ?_ | refine go2 ⟨rfl, rfl⟩ (fun h => ?_) fun j h => ?_ | refine go2 ?_ (fun h => ?_) fun j h => ?_ | refine goQ ?_ (fun h => ?_) fun h => ?_) | apply go3 | apply go4 | apply go5 | ((first | apply go6 | apply go7 | apply go8 | apply go9 | apply goA) <;> intro h) | with_reducible (first | refine IdxK.mk _ rfl ?_ | refine call_ite (fun h => ?_) fun h => ?_ | refine goB ?_ fun hc => ?_ | refine goC ?_ fun hc => ?_ | refine goD ?_ fun hc => ?_ | refine goE ?_ fun hc => ?_ | apply goF | apply goG | refine goH ?_ fun b hb => ?_) | apply goI | apply goJ | apply goK | apply goL | apply goM | apply goN | apply goO | with_reducible refine goP ?_)
    all_goals try conv => whnf
    all_goals try (refine Side.mk ?_; try dsimp only)
    refine ⟨67, by show mtP _ _ _; unfold mtP; simp, ?_⟩
    repeat' ((conv => whnf); first | with_reducible (first | refine go1 (fun j q h => ?_) fun h => ?_ | refine go2 ⟨rfl, rfl⟩ (fun h => ?_) fun j h => ?_ | refine go2 ?_ (fun h => ?_) fun j h => ?_ | refine goQ ?_ (fun h => ?_) fun h => ?_) | apply go3 | apply go4 | apply go5 | ((first | apply go6 | apply go7 | apply go8 | apply go9 | apply goA) <;> intro h) | with_reducible (first | refine IdxK.mk _ rfl ?_ | refine call_ite (fun h => ?_) fun h => ?_ | refine goB ?_ fun hc => ?_ | refine goC ?_ fun hc => ?_ | refine goD ?_ fun hc => ?_ | refine goE ?_ fun hc => ?_ | apply goF | apply goG | refine goH ?_ fun b hb => ?_) | apply goI | apply goJ | apply goK | apply goL | apply goM | apply goN | apply goO | with_reducible refine goP ?_)
    all_goals try conv => whnf
    all_goals try (refine Side.mk ?_; try dsimp only)
    · exact ⟨trivial, by omega, Nat.le_trans hP.t (by decide)⟩
    · refine ⟨[.swap 3 4], i + 1, by omega, ?_, by omega⟩
      rw [if_neg (by omega), hwi]
      refine Go.VG.Sub.mk rfl ?_ ?_ ?_ ?_ <;> (repeat' first | trivial | rfl | exact eqS _ _ | apply andI | apply eqA | apply eqB | apply eqC | apply eqD | apply eqE | apply eqF | apply eqG | apply eqH | apply eqI)
      rw [hn0, hF]
      simp only [bl_append, List.append_assoc]
  · exfalso; omega
end Go.Proofs.YtgiocgghmlmgfaaDoor
