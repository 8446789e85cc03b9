/-
  The document's places of a batch, and the spans there.
-/
import Derived.Test.YtafgmmfbhpbogaaGreatDoorOVh
set_option linter.unusedSimpArgs false
set_option linter.unusedVariables false
set_option maxHeartbeats 4000000
namespace Go.Proofs.YtafgmmfbhpbogaaGreatDoor
open Go Go.VG
set_option maxRecDepth 100000
structure Plc where
  (r k m : Nat)
deriving Inhabited
abbrev ePl (p : Plc) : V := .agg [.int .i64 p.r, .int .i64 p.k, .int .i64 p.m]
def rowP (i k n : Nat) : List Plc := (List.range n).map fun m => ⟨i, k, m⟩
def plC (i : Nat) : Nat → List Sc → List Plc
  | _, [] => []
  | k, c :: l => rowP i k c.spans.length ++ plC i (k + 1) l
def plB : Nat → List Rs → List Plc
  | _, [] => []
  | i, r :: l => plC i 0 r.scopes ++ plB (i + 1) l
theorem plC_app (i : Nat) : ∀ (l m : List Sc) (k : Nat), plC i k (l ++ m) = plC i k l ++ plC i (k + l.length) m
  | [], m, k => rfl
  | c :: l, m, k => by
    show rowP i k c.spans.length ++ plC i (k + 1) (l ++ m) = _
    rw [plC_app i l m (k + 1), ← List.append_assoc, List.length_cons, show k + 1 + l.length = k + (l.length + 1) by omega]; rfl
theorem plB_app : ∀ (l m : List Rs) (k : Nat), plB k (l ++ m) = plB k l ++ plB (k + l.length) m
  | [], m, k => rfl
  | c :: l, m, k => by
    show plC k 0 c.scopes ++ plB (k + 1) (l ++ m) = _
    rw [plB_app l m (k + 1), ← List.append_assoc, List.length_cons, show k + 1 + l.length = k + (l.length + 1) by omega]; rfl
/-- the places ahead of one -/
def plAt (b : List Rs) (i k m : Nat) : List Plc := plB 0 (b.take i) ++ (plC i 0 ((b.getD i default).scopes.take k) ++ rowP i k m)
theorem plAt_m (b : List Rs) (i k m : Nat) : plAt b i k (m + 1) = plAt b i k m ++ [⟨i, k, m⟩] := by
  unfold plAt rowP
  rw [List.range_succ, List.map_append]
  simp only [List.append_assoc]; rfl
theorem plAt_k {b : List Rs} {i k : Nat} (h : k < (b.getD i default).scopes.length) : plAt b i (k + 1) 0 = plAt b i k ((b.getD i default).scopes.getD k default).spans.length := by
  unfold plAt
  rw [take_nextV h, plC_app, List.length_take, Nat.min_eq_left (by omega), Nat.zero_add]
  show _ ++ ((_ ++ (rowP i k _ ++ [])) ++ []) = _
  rw [List.append_nil, List.append_nil]
theorem plAt_i {b : List Rs} {i : Nat} (h : i < b.length) : plAt b (i + 1) 0 0 = plAt b i (b.getD i default).scopes.length 0 := by
  unfold plAt
  rw [take_nextV h, plB_app, List.length_take, Nat.min_eq_left (by omega), Nat.zero_add, List.take_length]
  show (_ ++ (plC i 0 _ ++ [])) ++ [] = _ ++ (_ ++ [])
  simp only [List.append_nil]
theorem plAt_end (b : List Rs) : plAt b b.length 0 0 = plB 0 b := by unfold plAt; simp [plC, rowP]
theorem plC_len (i : Nat) : ∀ (l : List Sc) (k : Nat), (plC i k l).length = (spansC l).length
  | [], _ => rfl
  | c :: l, k => by
    show (rowP i k c.spans.length ++ plC i (k + 1) l).length = (c.spans ++ spansC l).length
    rw [List.length_append, List.length_append, plC_len i l (k + 1)]
    unfold rowP; simp
theorem plB_len : ∀ (l : List Rs) (k : Nat), (plB k l).length = (spansB l).length
  | [], _ => rfl
  | c :: l, k => by
    show (plC k 0 c.scopes ++ plB (k + 1) l).length = (spansC c.scopes ++ spansB l).length
    rw [List.length_append, List.length_append, plB_len l (k + 1), plC_len]
theorem plAt_len (b : List Rs) (i k m : Nat) (hi : i < b.length) (hk : k < (b.getD i default).scopes.length) (hm : m ≤ ((b.getD i default).scopes.getD k default).spans.length) : (plAt b i k m).length = (spAt b i k m).length := by
  unfold plAt spAt rowP
  simp only [List.length_append, plB_len, plC_len, List.length_map, List.length_range, List.length_take]
  omega
/-- the span at a place -/
def spOf (b : List Rs) (p : Plc) : Sp := ((b.getD p.r default).scopes.getD p.k default).spans.getD p.m default
structure PlOK (b : List Rs) (p : Plc) : Prop where
  r : p.r < b.length
  k : p.k < (b.getD p.r default).scopes.length
  m : p.m < ((b.getD p.r default).scopes.getD p.k default).spans.length
theorem map_range_getD {α : Type} [Inhabited α] (l : List α) : (List.range l.length).map (fun i => l.getD i default) = l := by
  refine List.ext_getElem (by simp) fun i h1 h2 => ?_
  rw [List.getElem_map, List.getElem_range, List.getD_eq_getElem?_getD, List.getElem?_eq_getElem h2]; rfl
theorem drop_get {α : Type} [Inhabited α] {l r : List α} {x : α} {k : Nat} (h : l.drop k = x :: r) : k < l.length ∧ l.getD k default = x ∧ l.drop (k + 1) = r := by
  have hk : k < l.length := by
    rcases Nat.lt_or_ge k l.length with q | q
    · exact q
    · rw [List.drop_of_length_le q] at h; cases h
  rw [drop_nextE hk] at h
  obtain ⟨h1, h2⟩ := List.cons.inj h
  exact ⟨hk, h1, h2⟩
theorem plC_sp (b : List Rs) (i : Nat) (hi : i < b.length) : ∀ (l : List Sc) (k : Nat), (b.getD i default).scopes.drop k = l → (plC i k l).map (spOf b) = spansC l ∧ ∀ p ∈ plC i k l, PlOK b p
  | [], k, h => ⟨rfl, fun p hp => by cases hp⟩
  | c :: l, k, h => by
    obtain ⟨h1, h2, h3⟩ := drop_get h
    obtain ⟨a1, a2⟩ := plC_sp b i hi l (k + 1) h3
    constructor
    · show (rowP i k c.spans.length ++ plC i (k + 1) l).map _ = c.spans ++ spansC l
      rw [List.map_append, a1]
      refine congrArg (· ++ spansC l) ?_
      unfold rowP
      rw [List.map_map]
      refine Eq.trans (List.map_congr_left fun m _ => ?_) (map_range_getD c.spans)
      show ((b.getD i default).scopes.getD k default).spans.getD m default = _
      rw [h2]
    · intro p hp
      rcases List.mem_append.1 hp with hp | hp
      · obtain ⟨m, hm, rfl⟩ := List.mem_map.1 hp
        exact ⟨hi, h1, by show m < ((b.getD i default).scopes.getD k default).spans.length; rw [h2]; exact List.mem_range.1 hm⟩
      · exact a2 p hp
theorem plB_sp (b : List Rs) : ∀ (l : List Rs) (i : Nat), b.drop i = l → (plB i l).map (spOf b) = spansB l ∧ ∀ p ∈ plB i l, PlOK b p
  | [], i, h => ⟨rfl, fun p hp => by cases hp⟩
  | r :: l, i, h => by
    obtain ⟨h1, h2, h3⟩ := drop_get h
    obtain ⟨a1, a2⟩ := plB_sp b l (i + 1) h3
    obtain ⟨c1, c2⟩ := plC_sp b i h1 r.scopes 0 (by rw [h2]; rfl)
    refine ⟨?_, fun p hp => ?_⟩
    · show (plC i 0 r.scopes ++ plB (i + 1) l).map _ = spansC r.scopes ++ spansB l
      rw [List.map_append, a1, c1]
    · rcases List.mem_append.1 hp with hp | hp
      · exact c2 p hp
      · exact a2 p hp
theorem place_get {b : List Rs} {j : Nat} (h : j < (spansB b).length) : spOf b ((plB 0 b).getD j default) = (spansB b).getD j default ∧ PlOK b ((plB 0 b).getD j default) := by
  obtain ⟨a1, a2⟩ := plB_sp b b 0 rfl
  have hj : j < (plB 0 b).length := by rw [plB_len]; exact h
  refine ⟨?_, a2 _ (getD_mem hj)⟩
  rw [← a1, List.getD_eq_getElem?_getD, List.getD_eq_getElem?_getD, List.getElem?_map, List.getElem?_eq_getElem hj]; rfl
-- #name r28Places truchmanref28.Places
noncomputable def sm_r28Places : Sm := fun args σ => match args, σ with
  | [x], [] => some ((∃ b, x = eBt b) ∧ BtOK (unE eBt x), .buf 0, some [.buf 3 0 ((plB 0 (unE eBt x)).map ePl)])
  | _, _ => none
theorem f_r28Places (b : List Rs) (hb : BtOK b) : OK 20 [eBt b] [] (.buf 0) (some [.buf 3 0 ((plB 0 b).map ePl)]) := by
  refine funOK_of_vc (C := cx []) (good trivial) (fn := Tryz.f20) rfl rfl rfl rfl fun hw _ => ?_
  have hb0 : (b.map eRs).length = b.length := List.length_map _
  have hr := hb.r
  have hn := hb.n
  repeat' ((conv => whnf); first | with_reducible (first | refine go1 (fun j q h => ?_) fun h => ?_ | refine go2 ⟨rfl, rfl⟩ (fun h => ?_) fun j h => ?_ | refine go2 ?_ (fun h => ?_) fun j h => ?_ | refine goQ ?_ (fun h => ?_) fun h => ?_) | apply go3 | apply go4 | apply go5 | ((first | apply go6 | apply go7 | apply go8 | apply go9 | apply goA) <;> intro h) | with_reducible (first | refine IdxK.mk _ rfl ?_ | refine idx_encL ?_ ?_ | refine idx_encM ?_ ?_ | refine goB ?_ fun hc => ?_ | refine goC ?_ fun hc => ?_ | refine goD ?_ fun hc => ?_ | refine goE ?_ fun hc => ?_ | apply goF | apply goG | refine goH ?_ fun b hb => ?_) | apply goI | apply goJ | apply goK | apply goL | apply goM | apply goN | apply goO | with_reducible refine goP ?_)
  all_goals try conv => whnf
  all_goals try (refine Side.mk ?_; try dsimp only)
  refine LoopP.mk Nat (fun i => i ≤ b.length) (fun i => ⟨48, [(1, .ptr 0 0), (3, .buf 1), (4, .int .i64 i)], [.cells [.list false 2 (b.map eRs)], .buf 3 0 ((plAt b i 0 0).map ePl)], [1]⟩) (fun i => b.length - i) [.tm 3 3] 0 (Nat.zero_le _) ?_ (fun i hi _ _ => ?_)
  · refine Go.VG.Sub.mk rfl ?_ ?_ ?_ ?_ <;> (repeat' first | trivial | rfl | exact eqS _ _ | apply andI | apply eqA | apply eqB | apply eqC | apply eqD | apply eqE | apply eqF | apply eqG | apply eqH | apply eqI)
  repeat' ((conv => whnf); first | with_reducible (first | refine go1 (fun j q h => ?_) fun h => ?_ | refine go2 ⟨rfl, rfl⟩ (fun h => ?_) fun j h => ?_ | refine go2 ?_ (fun h => ?_) fun j h => ?_ | refine goQ ?_ (fun h => ?_) fun h => ?_) | apply go3 | apply go4 | apply go5 | ((first | apply go6 | apply go7 | apply go8 | apply go9 | apply goA) <;> intro h) | with_reducible (first | refine IdxK.mk _ rfl ?_ | refine idx_encL ?_ ?_ | refine idx_encM ?_ ?_ | refine goB ?_ fun hc => ?_ | refine goC ?_ fun hc => ?_ | refine goD ?_ fun hc => ?_ | refine goE ?_ fun hc => ?_ | apply goF | apply goG | refine goH ?_ fun b hb => ?_) | apply goI | apply goJ | apply goK | apply goL | apply goM | apply goN | apply goO | with_reducible refine goP ?_)
  all_goals try conv => whnf
  all_goals try (refine Side.mk ?_; try dsimp only)
  all_goals first | refine stay ?_ | trivial | omega | (simp (discharger := omega) only [wR]; omega) | (simp only [lnS]; omega) | (simp (discharger := omega) [-List.getD_eq_getElem?_getD, wR] <;> omega) | skip
  all_goals (try simp only [hb0] at *)
  · have hs0 : ((b.getD i default).scopes.map eSc).length = (b.getD i default).scopes.length := List.length_map _
    have hsc := hb.sc (i := i) (by omega)
    refine LoopP.mk Nat (fun k => k ≤ (b.getD i default).scopes.length) (fun k => ⟨48, [(1, .ptr 0 0), (3, .buf 1), (4, .int .i64 i), (5, .int .i64 k)], [.cells [.list false 2 (b.map eRs)], .buf 3 0 ((plAt b i k 0).map ePl)], [1]⟩) (fun k => (b.getD i default).scopes.length - k) [] 0 (Nat.zero_le _) ?_ (fun k hk _ _ => ?_)
    · refine Go.VG.Sub.mk rfl ?_ ?_ ?_ ?_ <;> (repeat' first | trivial | rfl | exact eqS _ _ | apply andI | apply eqA | apply eqB | apply eqC | apply eqD | apply eqE | apply eqF | apply eqG | apply eqH | apply eqI)
    repeat' ((conv => whnf); first | with_reducible (first | refine go1 (fun j q h => ?_) fun h => ?_ | refine go2 ⟨rfl, rfl⟩ (fun h => ?_) fun j h => ?_ | refine go2 ?_ (fun h => ?_) fun j h => ?_ | refine goQ ?_ (fun h => ?_) fun h => ?_) | apply go3 | apply go4 | apply go5 | ((first | apply go6 | apply go7 | apply go8 | apply go9 | apply goA) <;> intro h) | with_reducible (first | refine IdxK.mk _ rfl ?_ | refine idx_encL ?_ ?_ | refine idx_encM ?_ ?_ | refine goB ?_ fun hc => ?_ | refine goC ?_ fun hc => ?_ | refine goD ?_ fun hc => ?_ | refine goE ?_ fun hc => ?_ | apply goF | apply goG | refine goH ?_ fun b hb => ?_) | apply goI | apply goJ | apply goK | apply goL | apply goM | apply goN | apply goO | with_reducible refine goP ?_)
    all_goals try conv => whnf
    all_goals try (refine Side.mk ?_; try dsimp only)
    all_goals first | refine stay ?_ | trivial | omega | (simp (discharger := omega) only [wR]; omega) | (simp only [lnS]; omega) | (simp (discharger := omega) [-List.getD_eq_getElem?_getD, wR] <;> omega) | skip
    all_goals (try simp only [hs0] at *)
    · have hm0 : (((b.getD i default).scopes.getD k default).spans.map eSp).length = ((b.getD i default).scopes.getD k default).spans.length := List.length_map _
      have hsp := hb.sp (i := i) (k := k) (by omega) (by omega)
      refine LoopP.mk Nat (fun m => m ≤ ((b.getD i default).scopes.getD k default).spans.length) (fun m => ⟨48, [(1, .ptr 0 0), (3, .buf 1), (4, .int .i64 i), (5, .int .i64 k), (6, .int .i64 m)], [.cells [.list false 2 (b.map eRs)], .buf 3 0 ((plAt b i k m).map ePl)], [1]⟩) (fun m => ((b.getD i default).scopes.getD k default).spans.length - m) [] 0 (Nat.zero_le _) ?_ (fun m hm _ _ => ?_)
      · refine Go.VG.Sub.mk rfl ?_ ?_ ?_ ?_ <;> (repeat' first | trivial | rfl | exact eqS _ _ | apply andI | apply eqA | apply eqB | apply eqC | apply eqD | apply eqE | apply eqF | apply eqG | apply eqH | apply eqI)
      have hl := spAt_len (b := b) (m := m) i k (by omega) (by omega)
      have hpl := plAt_len b i k m (by omega) (by omega) hm
      have hml : ((plAt b i k m).map ePl).length = (plAt b i k m).length := List.length_map _
      repeat' ((conv => whnf); first | with_reducible (first | refine go1 (fun j q h => ?_) fun h => ?_ | refine go2 ⟨rfl, rfl⟩ (fun h => ?_) fun j h => ?_ | refine go2 ?_ (fun h => ?_) fun j h => ?_ | refine goQ ?_ (fun h => ?_) fun h => ?_) | apply go3 | apply go4 | apply go5 | ((first | apply go6 | apply go7 | apply go8 | apply go9 | apply goA) <;> intro h) | with_reducible (first | refine IdxK.mk _ rfl ?_ | refine idx_encL ?_ ?_ | refine idx_encM ?_ ?_ | refine goB ?_ fun hc => ?_ | refine goC ?_ fun hc => ?_ | refine goD ?_ fun hc => ?_ | refine goE ?_ fun hc => ?_ | apply goF | apply goG | refine goH ?_ fun b hb => ?_) | apply goI | apply goJ | apply goK | apply goL | apply goM | apply goN | apply goO | with_reducible refine goP ?_)
      all_goals try conv => whnf
      all_goals try (refine Side.mk ?_; try dsimp only)
      all_goals first | refine stay ?_ | trivial | omega | (simp (discharger := omega) only [wR]; omega) | (simp only [lnS]; omega) | (simp (discharger := omega) [-List.getD_eq_getElem?_getD, wR] <;> omega) | skip
      all_goals (try simp only [hm0] at *)
      · refine ⟨[], m + 1, by omega, ?_, by omega⟩
        rw [plAt_m]
        refine Go.VG.Sub.mk rfl ?_ ?_ ?_ ?_ <;> (repeat' first | trivial | rfl | exact eqS _ _ | apply andI | apply eqA | apply eqB | apply eqC | apply eqD | apply eqE | apply eqF | apply eqG | apply eqH | apply eqI)
        all_goals (first | (rw [List.map_append]; rfl) | (rw [wi64]; omega))
      · obtain rfl : m = ((b.getD i default).scopes.getD k default).spans.length := by omega
        have e := plAt_k (b := b) (i := i) (k := k) (by omega)
        refine ⟨[], k + 1, by omega, ?_, by omega⟩
        rw [e]
        refine Go.VG.Sub.mk rfl ?_ ?_ ?_ ?_ <;> (repeat' first | trivial | rfl | exact eqS _ _ | apply andI | apply eqA | apply eqB | apply eqC | apply eqD | apply eqE | apply eqF | apply eqG | apply eqH | apply eqI)
        all_goals (first | (rw [wi64]; omega))
    · obtain rfl : k = (b.getD i default).scopes.length := by omega
      have e := plAt_i (b := b) (i := i) (by omega)
      refine ⟨[], i + 1, by omega, ?_, by omega⟩
      rw [e]
      refine Go.VG.Sub.mk rfl ?_ ?_ ?_ ?_ <;> (repeat' first | trivial | rfl | exact eqS _ _ | apply andI | apply eqA | apply eqB | apply eqC | apply eqD | apply eqE | apply eqF | apply eqG | apply eqH | apply eqI)
      all_goals (first | (rw [wi64]; omega))
  · obtain rfl : i = b.length := by omega
    rw [plAt_end]
    refine EndP.mk [.swap 0 1] ?_ <;> (repeat' first | trivial | rfl | exact eqS _ _ | apply andI | apply eqA | apply eqB | apply eqC | apply eqD | apply eqE | apply eqF | apply eqG | apply eqH | apply eqI)
theorem k_r28Places : SOK 20 sm_r28Places := by
  intro args sg pre x r he hp
  unfold sm_r28Places at he
  split at he <;> cases he
  obtain ⟨⟨s, rfl⟩, hp⟩ := hp
  rw [un_bt] at hp ⊢
  exact f_r28Places s hp
-- #name r28Span truchmanref28.Span
noncomputable def sm_r28Span : Sm := fun args σ => match args, σ with
  | [x, .agg [.int .i64 i, .int .i64 k, .int .i64 m]], [] => some ((∃ b, x = eBt b) ∧ (0 ≤ i ∧ 0 ≤ k ∧ 0 ≤ m) ∧ PlOK (unE eBt x) ⟨i.toNat, k.toNat, m.toNat⟩, .agg (eSpc (spOf (unE eBt x) ⟨i.toNat, k.toNat, m.toNat⟩)), none)
  | _, _ => none
theorem f_r28Span (b : List Rs) (p : Plc) (hp : PlOK b p) : OK 22 [eBt b, ePl p] [] (.agg (eSpc (spOf b p))) none := by
  refine funOK_of_vc (C := cx []) (good trivial) (fn := Tryz.f22) rfl rfl rfl rfl fun hw _ => ?_
  have hb0 : (b.map eRs).length = b.length := List.length_map _
  have hs0 : ((b.getD p.r default).scopes.map eSc).length = (b.getD p.r default).scopes.length := List.length_map _
  have h1 := hp.r
  have h2 := hp.k
  have h3 := hp.m
  repeat' ((conv => whnf); first | with_reducible (first | refine go1 (fun j q h => ?_) fun h => ?_ | refine go2 ⟨rfl, rfl⟩ (fun h => ?_) fun j h => ?_ | refine go2 ?_ (fun h => ?_) fun j h => ?_ | refine goQ ?_ (fun h => ?_) fun h => ?_) | apply go3 | apply go4 | apply go5 | ((first | apply go6 | apply go7 | apply go8 | apply go9 | apply goA) <;> intro h) | with_reducible (first | refine IdxK.mk _ rfl ?_ | refine idx_encL ?_ ?_ | refine idx_encM ?_ ?_ | refine goB ?_ fun hc => ?_ | refine goC ?_ fun hc => ?_ | refine goD ?_ fun hc => ?_ | refine goE ?_ fun hc => ?_ | apply goF | apply goG | refine goH ?_ fun b hb => ?_) | apply goI | apply goJ | apply goK | apply goL | apply goM | apply goN | apply goO | with_reducible refine goP ?_)
  all_goals try conv => whnf
  all_goals try (refine Side.mk ?_; try dsimp only)
  all_goals first | refine stay ?_ | trivial | omega | (simp (discharger := omega) only [wR]; omega) | (simp only [lnS]; omega) | (simp (discharger := omega) [-List.getD_eq_getElem?_getD, wR] <;> omega) | skip
  refine EndP.mk [] ?_ <;> (repeat' first | trivial | rfl | exact eqS _ _ | apply andI | apply eqA | apply eqB | apply eqC | apply eqD | apply eqE | apply eqF | apply eqG | apply eqH | apply eqI)
theorem k_r28Span : SOK 22 sm_r28Span := by
  intro args sg pre x r he hp
  unfold sm_r28Span at he
  split at he <;> cases he
  rename_i x i k m
  obtain ⟨⟨s, rfl⟩, ⟨hi, hk, hm⟩, hp⟩ := hp
  obtain ⟨i, rfl⟩ := Int.eq_ofNat_of_zero_le hi
  obtain ⟨k, rfl⟩ := Int.eq_ofNat_of_zero_le hk
  obtain ⟨m, rfl⟩ := Int.eq_ofNat_of_zero_le hm
  rw [un_bt] at hp ⊢
  exact f_r28Span s ⟨i, k, m⟩ hp
end Go.Proofs.YtafgmmfbhpbogaaGreatDoor
