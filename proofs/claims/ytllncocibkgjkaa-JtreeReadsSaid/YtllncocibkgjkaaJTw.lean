/-
  A token of JSON: the program's functions do what the model turns.
-/
import Derived.Test.YtllncocibkgjkaaJNw
import Derived.Test.YtllncocibkgjkaaJNd
set_option linter.unusedSimpArgs false
set_option linter.unusedVariables false
set_option maxHeartbeats 4000000
namespace Go.Proofs.Ytllncocibkgjkaa
open Go Go.VG
set_option maxRecDepth 100000
theorem a2z (c : Cu) (hp : c.ok ∧ c.s.length ≤ 100000000) : OK 47 ([.ptr 0 0]) ([.cells (eC c)]) (.str c.num.2) (some [.cells (eC c.num.1)]) := by
  refine aa0 (C := cxh [(79, aqg), (21, af2)] [(2, [.cell 1 1 1])]) (abh ⟨baa, ak2, trivial⟩) (fn := Try.f47) rfl rfl rfl rfl fun hw hs => ?_
  obtain ⟨hp, hl⟩ := hp
  repeat' ((conv => whnf); first | with_reducible (first | refine go1 (fun j q h => ?_) fun h => ?_ | refine go2 ⟨rfl, rfl⟩ (fun h => ?_) fun j h => ?_ | refine go2 ?_ (fun h => ?_) fun j h => ?_ | refine goQ ?_ (fun h => ?_) fun h => ?_) | refine go3 ?_ ?_ | refine go4 ?_ ?_ | refine go5 ?_ | ((first | refine go6 ?_ ?_ | refine go7 ?_ ?_ | refine go8 ?_ ?_ | refine go9 ?_ ?_ | refine goA ?_ ?_) <;> intro h) | with_reducible (first | refine aai.mk _ rfl ?_ | refine goB ?_ fun hc => ?_ | refine goC ?_ fun hc => ?_ | refine goD ?_ fun hc => ?_ | refine goE ?_ fun hc => ?_ | refine goF ?_ ?_ | refine goG ?_ ?_ | refine goH ?_ fun b hb => ?_) | refine goI ?_ | refine goJ ?_ ?_ | refine goK ?_ ?_ ?_ | refine goL ?_ ?_ ?_ ?_ | refine goM ?_ ?_ ?_ ?_ ?_ | refine goN ?_ ?_ | refine goO ?_ ?_ | with_reducible refine goP ?_)
  all_goals try conv => whnf
  all_goals try (refine aac.mk ?_; try dsimp only)
  all_goals (try simp only [aa3] at *)
  all_goals first
    | (refine stay ?_)
    | (first | trivial | omega | (simp (discharger := omega) only [wR]; omega) | (simp only [lnS]; omega) | (simp (discharger := omega) [-List.getD_eq_getElem?_getD, wR] <;> omega)) | skip
  · unfold Cu.num
    rw [if_pos (by assumption)]
    refine aa9.mk [] ?_ <;> (repeat' first | trivial | rfl | exact eqS _ _ | apply And.intro | apply eqA | apply eqB | apply eqC | apply eqD | apply eqE | apply eqF | apply eqG | apply eqH | apply eqI)
  · unfold Cu.num
    rw [if_neg (by assumption)]
    refine aa9.mk [] ?_ <;> (repeat' first | trivial | rfl | exact eqS _ _ | apply And.intro | apply eqA | apply eqB | apply eqC | apply eqD | apply eqE | apply eqF | apply eqG | apply eqH | apply eqI)
def aqh : Sm := fun args σ => match args, σ with
  | [.ptr 0 0], [.cells ([.str s_c, .int .i64 (.ofNat a_c), .int .i64 (.ofNat e_c), .int .i64 c_c])] => some (True ∧ ((Cu.mk s_c a_c e_c c_c).ok ∧ (Cu.mk s_c a_c e_c c_c).s.length ≤ 100000000), .str (Cu.mk s_c a_c e_c c_c).num.2, some [.cells (eC (Cu.mk s_c a_c e_c c_c).num.1)])
  | _, _ => none
theorem bab : SOK 47 aqh := by
  intro args sg pre x r he hp
  unfold aqh at he
  split at he <;> cases he
  · rw [acr (hp).1]; exact a2z (hp := hp.2) ..
theorem a2f {c : Cu} (hk : c.ok) (h : c.has) (hb : anr c.aa2 = true) : c.byte.aba = c.aba := by
  obtain ⟨b1, b2⟩ := ace h.1 h.2
  have hl := aci hk
  have hp : c.p < c.txt.length := by have := h.2; omega
  rw [b2] at hb
  unfold Cu.aba
  rw [b1, if_pos (show ({ c with p := c.p + 1 } : Cu).c = 0 from h.1), if_pos h.1]
  have e : Cu.txt { c with p := c.p + 1 } = c.txt := rfl
  rw [e, aue hp hb]
theorem ap1 {c : Cu} (hk : c.ok) (h : ¬ c.has ∨ anr c.aa2 = false) : c.aba = c := by
  have hl := aci hk
  unfold Cu.aba
  by_cases h0 : c.c = 0
  · rw [if_pos h0]
    have : an4 anr c.txt c.p = c.p := by
      by_cases hp : c.p < c.e
      · obtain ⟨_, b2⟩ := ace h0 hp
        rcases h with h | h
        · exact absurd ⟨h0, hp⟩ h
        · rw [b2] at h; exact alu (.inr h)
      · exact alu (.inl (by have := hk.1; omega))
    rw [this]
  · rw [if_neg h0]
theorem a5e {b : UInt8} : anr b = true ↔ b.toNat = 32 ∨ b.toNat = 9 ∨ b.toNat = 10 ∨ b.toNat = 13 := by simp [anr]
theorem bc8 {b : UInt8} : anr b = false ↔ ¬ (b.toNat = 32 ∨ b.toNat = 9 ∨ b.toNat = 10 ∨ b.toNat = 13) := by rw [← a5e, Bool.not_eq_true]
theorem aw3 (c : Cu) (hp : c.ok) : OK 42 ([.ptr 0 0]) ([.cells (eC c)]) (.tuple []) (some [.cells (eC c.aba)]) := by
  refine aa0 (C := cx [(43, agp), (44, adn)]) (abh ⟨amv, agu, trivial⟩) (fn := Try.f42) rfl rfl rfl rfl fun hw hs => ?_
  refine abt.mk Cu (fun d => d.ok ∧ d.aba = c.aba) (fun d => ⟨29, [(0, .ptr 0 0)], [.cells (eC d)], []⟩) (fun d => d.e - d.p) [] c ⟨hp, rfl⟩ ?_ (fun d ⟨hd, he⟩ _ _ => ?_)
  · refine Go.VG.Sub.mk rfl ?_ ?_ ?_ ?_ <;> (repeat' first | trivial | rfl | exact eqS _ _ | apply And.intro | apply eqA | apply eqB | apply eqC | apply eqD | apply eqE | apply eqF | apply eqG | apply eqH | apply eqI)
  have hb : d.aa2.toNat < 256 := d.aa2.toNat_lt
  have hbo := agw hd 1
  have hbk : d.byte.ok := hbo.1
  repeat' ((conv => whnf); first | with_reducible (first | refine go1 (fun j q h => ?_) fun h => ?_ | refine go2 ⟨rfl, rfl⟩ (fun h => ?_) fun j h => ?_ | refine go2 ?_ (fun h => ?_) fun j h => ?_ | refine goQ ?_ (fun h => ?_) fun h => ?_) | refine go3 ?_ ?_ | refine go4 ?_ ?_ | refine go5 ?_ | ((first | refine go6 ?_ ?_ | refine go7 ?_ ?_ | refine go8 ?_ ?_ | refine go9 ?_ ?_ | refine goA ?_ ?_) <;> intro h) | with_reducible (first | refine aai.mk _ rfl ?_ | refine goB ?_ fun hc => ?_ | refine goC ?_ fun hc => ?_ | refine goD ?_ fun hc => ?_ | refine goE ?_ fun hc => ?_ | refine goF ?_ ?_ | refine goG ?_ ?_ | refine goH ?_ fun b hb => ?_) | refine goI ?_ | refine goJ ?_ ?_ | refine goK ?_ ?_ ?_ | refine goL ?_ ?_ ?_ ?_ | refine goM ?_ ?_ ?_ ?_ ?_ | refine goN ?_ ?_ | refine goO ?_ ?_ | with_reducible refine goP ?_)
  all_goals try conv => whnf
  all_goals try (refine aac.mk ?_; try dsimp only)
  all_goals (try simp only [aa3] at *)
  all_goals first
    | (refine stay ?_)
    | (first | trivial | omega | (simp (discharger := omega) only [wR]; omega) | (simp only [lnS]; omega) | (simp (discharger := omega) [-List.getD_eq_getElem?_getD, wR] <;> omega)) | skip
  all_goals first
    | (have hh : d.has := by assumption
       have hx := a2f hd hh (a5e.2 (by omega))
       have hy := (ace hh.1 hh.2).1
       refine ⟨[], d.byte, ⟨hbk, hx.trans he⟩, ?_, by have := hh.2; rw [hy]; show d.e - (d.p + 1) < d.e - d.p; omega⟩
       refine Go.VG.Sub.mk rfl ?_ ?_ ?_ ?_ <;> (repeat' first | trivial | rfl | exact eqS _ _ | apply And.intro | apply eqA | apply eqB | apply eqC | apply eqD | apply eqE | apply eqF | apply eqG | apply eqH | apply eqI)
       )
    | (have hx := ap1 hd (.inl (by assumption))
       rw [← he, hx]
       refine aa9.mk [] ?_ <;> (repeat' first | trivial | rfl | exact eqS _ _ | apply And.intro | apply eqA | apply eqB | apply eqC | apply eqD | apply eqE | apply eqF | apply eqG | apply eqH | apply eqI)
       )
    | (have hx := ap1 hd (.inr (bc8.2 (by omega)))
       rw [← he, hx]
       refine aa9.mk [] ?_ <;> (repeat' first | trivial | rfl | exact eqS _ _ | apply And.intro | apply eqA | apply eqB | apply eqC | apply eqD | apply eqE | apply eqF | apply eqG | apply eqH | apply eqI)
       )
    | skip
def akp : Sm := fun args σ => match args, σ with
  | [.ptr 0 0], [.cells ([.str s_c, .int .i64 (.ofNat a_c), .int .i64 (.ofNat e_c), .int .i64 c_c])] => some (True ∧ ((Cu.mk s_c a_c e_c c_c).ok), .tuple [], some [.cells (eC (Cu.mk s_c a_c e_c c_c).aba)])
  | _, _ => none
theorem a3w : SOK 42 akp := by
  intro args sg pre x r he hp
  unfold akp at he
  split at he <;> cases he
  · rw [acr (hp).1]; exact aw3 (hp := hp.2) ..
theorem ayn (b : UInt8) (hp : True) : OK 38 ([bv b, .list true 1 [.int .u8 123, .int .u8 125, .int .u8 91, .int .u8 93, .int .u8 58, .int .u8 44]]) ([]) (.bool (ach b)) (none) := by
  refine aa0 (C := cx []) (abh trivial) (fn := Try.f38) rfl rfl rfl rfl fun hw hs => ?_
  have hb : b.toNat < 256 := b.toNat_lt
  have hl : ([123, 125, 91, 93, 58, 44] : List UInt8).length = 6 := rfl
  refine abt.mk Nat (fun i => i ≤ 6 ∧ ∀ j, j < i → ([123, 125, 91, 93, 58, 44] : List UInt8).getD j 0 ≠ b) (fun i => ⟨17, [(0, bv b), (7, .list true 1 (bl [123, 125, 91, 93, 58, 44])), (8, .int .i64 6), (9, .int .i64 i)], [], []⟩) (fun i => 6 - i) [] 0 ⟨by omega, fun j hj => absurd hj (by omega)⟩ ?_ (fun i ⟨hi, hj⟩ _ _ => ?_)
  · refine Go.VG.Sub.mk rfl ?_ ?_ ?_ ?_ <;> (repeat' first | trivial | rfl | exact eqS _ _ | apply And.intro | apply eqA | apply eqB | apply eqC | apply eqD | apply eqE | apply eqF | apply eqG | apply eqH | apply eqI)
  have hx : (([123, 125, 91, 93, 58, 44] : List UInt8).getD i 0).toNat < 256 := UInt8.toNat_lt _
  have hin : ∀ j, j < 6 → ach (([123, 125, 91, 93, 58, 44] : List UInt8).getD j 0) = true := by decide
  have hno : i = 6 → ach b = false := fun e => by
    cases q : ach b with
    | false => rfl
    | true =>
      have h : ∀ n : Nat, n < 256 → ach (.ofNat n) = true → ∃ j, j < 6 ∧ ([123, 125, 91, 93, 58, 44] : List UInt8).getD j 0 = .ofNat n := by decide +kernel
      obtain ⟨j, h1, h2⟩ := h b.toNat hb (by rw [UInt8.ofNat_toNat]; exact q)
      rw [UInt8.ofNat_toNat] at h2
      exact absurd h2 (hj j (by omega))
  repeat' ((conv => whnf); first | with_reducible (first | refine go1 (fun j q h => ?_) fun h => ?_ | refine go2 ⟨rfl, rfl⟩ (fun h => ?_) fun j h => ?_ | refine go2 ?_ (fun h => ?_) fun j h => ?_ | refine goQ ?_ (fun h => ?_) fun h => ?_) | refine go3 ?_ ?_ | refine go4 ?_ ?_ | refine go5 ?_ | ((first | refine go6 ?_ ?_ | refine go7 ?_ ?_ | refine go8 ?_ ?_ | refine go9 ?_ ?_ | refine goA ?_ ?_) <;> intro h) | with_reducible (first | refine aai.mk _ rfl ?_ | refine goB ?_ fun hc => ?_ | refine goC ?_ fun hc => ?_ | refine goD ?_ fun hc => ?_ | refine goE ?_ fun hc => ?_ | refine goF ?_ ?_ | refine goG ?_ ?_ | refine goH ?_ fun b hb => ?_) | refine goI ?_ | refine goJ ?_ ?_ | refine goK ?_ ?_ ?_ | refine goL ?_ ?_ ?_ ?_ | refine goM ?_ ?_ ?_ ?_ ?_ | refine goN ?_ ?_ | refine goO ?_ ?_ | with_reducible refine goP ?_)
  all_goals try conv => whnf
  all_goals try (refine aac.mk ?_; try dsimp only)
  all_goals (try simp only [aa3] at *)
  all_goals first
    | (refine stay ?_)
    | (first | trivial | omega | (simp (discharger := omega) only [wR]; omega) | (simp only [lnS]; omega) | (simp (discharger := omega) [-List.getD_eq_getElem?_getD, wR] <;> omega)) | skip
  · have e : ([123, 125, 91, 93, 58, 44] : List UInt8).getD i 0 = b := UInt8.toNat_inj.1 (by omega)
    have := hin i (by omega)
    rw [e] at this
    rw [this]
    refine aa9.mk [] ?_ <;> (repeat' first | trivial | rfl | exact eqS _ _ | apply And.intro | apply eqA | apply eqB | apply eqC | apply eqD | apply eqE | apply eqF | apply eqG | apply eqH | apply eqI)
  · refine ⟨[], i + 1, ⟨by omega, fun j hjj => ?_⟩, ?_, by omega⟩
    · by_cases e : j = i
      · subst e; intro e; have := congrArg UInt8.toNat e; omega
      · exact hj j (by omega)
    · refine Go.VG.Sub.mk rfl ?_ ?_ ?_ ?_ <;> (repeat' first | trivial | rfl | exact eqS _ _ | apply And.intro | apply eqA | apply eqB | apply eqC | apply eqD | apply eqE | apply eqF | apply eqG | apply eqH | apply eqI)
      all_goals (first | omega | (simp (discharger := omega) only [wR]; omega) | (simp only [lnS]; omega) | (simp (discharger := omega) [-List.getD_eq_getElem?_getD, wR] <;> omega))
  · rw [hno (by omega)]
    refine aa9.mk [] ?_ <;> (repeat' first | trivial | rfl | exact eqS _ _ | apply And.intro | apply eqA | apply eqB | apply eqC | apply eqD | apply eqE | apply eqF | apply eqG | apply eqH | apply eqI)
def ahj : Sm := fun args σ => match args, σ with
  | [.int .u8 n_b, .list true 1 [.int .u8 123, .int .u8 125, .int .u8 91, .int .u8 93, .int .u8 58, .int .u8 44]], [] => some ((0 ≤ n_b ∧ n_b ≤ 255) ∧ (True), .bool (ach (byte n_b)), none)
  | _, _ => none
theorem apn : SOK 38 ahj := by
  intro args sg pre x r he hp
  unfold ahj at he
  split at he <;> cases he
  · rw [af3 (hp).1]; exact ayn (hp := hp.2) ..
theorem atl (k : UInt8) (hp : True) : OK 37 ([bv k]) ([]) (.str (spell k)) (none) := by
  refine aa0 (C := cx []) (abh trivial) (fn := Try.f37) rfl rfl rfl rfl fun hw hs => ?_
  have hb : k.toNat < 256 := k.toNat_lt
  repeat' ((conv => whnf); first | with_reducible (first | refine go1 (fun j q h => ?_) fun h => ?_ | refine go2 ⟨rfl, rfl⟩ (fun h => ?_) fun j h => ?_ | refine go2 ?_ (fun h => ?_) fun j h => ?_ | refine goQ ?_ (fun h => ?_) fun h => ?_) | refine go3 ?_ ?_ | refine go4 ?_ ?_ | refine go5 ?_ | ((first | refine go6 ?_ ?_ | refine go7 ?_ ?_ | refine go8 ?_ ?_ | refine go9 ?_ ?_ | refine goA ?_ ?_) <;> intro h) | with_reducible (first | refine aai.mk _ rfl ?_ | refine goB ?_ fun hc => ?_ | refine goC ?_ fun hc => ?_ | refine goD ?_ fun hc => ?_ | refine goE ?_ fun hc => ?_ | refine goF ?_ ?_ | refine goG ?_ ?_ | refine goH ?_ fun b hb => ?_) | refine goI ?_ | refine goJ ?_ ?_ | refine goK ?_ ?_ ?_ | refine goL ?_ ?_ ?_ ?_ | refine goM ?_ ?_ ?_ ?_ ?_ | refine goN ?_ ?_ | refine goO ?_ ?_ | with_reducible refine goP ?_)
  all_goals try conv => whnf
  all_goals try (refine aac.mk ?_; try dsimp only)
  all_goals (try simp only [aa3] at *)
  all_goals first
    | (refine stay ?_)
    | (first | trivial | omega | (simp (discharger := omega) only [wR]; omega) | (simp only [lnS]; omega) | (simp (discharger := omega) [-List.getD_eq_getElem?_getD, wR] <;> omega)) | skip
  all_goals
    unfold spell
    repeat (first | rw [if_pos (by omega)] | rw [if_neg (by omega)])
    refine aa9.mk [] ?_ <;> (repeat' first | trivial | rfl | exact eqS _ _ | apply And.intro | apply eqA | apply eqB | apply eqC | apply eqD | apply eqE | apply eqF | apply eqG | apply eqH | apply eqI)
def aey : Sm := fun args σ => match args, σ with
  | [.int .u8 n_k], [] => some ((0 ≤ n_k ∧ n_k ≤ 255) ∧ (True), .str (spell (byte n_k)), none)
  | _, _ => none
theorem akg : SOK 37 aey := by
  intro args sg pre x r he hp
  unfold aey at he
  split at he <;> cases he
  · rw [af3 (hp).1]; exact atl (hp := hp.2) ..
abbrev eT (t : Tk) : List V := [.int .u8 t.k.toNat, .str t.t]
theorem a35 (c : Cu) (k : UInt8) (t : List UInt8) (hp : True) : OK 46 ([.ptr 0 0, .agg [bv k, .str t]]) ([.cells (eC c)]) (.agg (eT (if c.c = 0 then ⟨k, t⟩ else .no))) (none) := by
  refine aa0 (C := cx [(21, af2)]) (abh ⟨ak2, trivial⟩) (fn := Try.f46) rfl rfl rfl rfl fun hw hs => ?_
  have hb : k.toNat < 256 := k.toNat_lt
  have hbb : byte k.toNat = k := aaf _
  repeat' ((conv => whnf); first | with_reducible (first | refine go1 (fun j q h => ?_) fun h => ?_ | refine go2 ⟨rfl, rfl⟩ (fun h => ?_) fun j h => ?_ | refine go2 ?_ (fun h => ?_) fun j h => ?_ | refine goQ ?_ (fun h => ?_) fun h => ?_) | refine go3 ?_ ?_ | refine go4 ?_ ?_ | refine go5 ?_ | ((first | refine go6 ?_ ?_ | refine go7 ?_ ?_ | refine go8 ?_ ?_ | refine go9 ?_ ?_ | refine goA ?_ ?_) <;> intro h) | with_reducible (first | refine aai.mk _ rfl ?_ | refine goB ?_ fun hc => ?_ | refine goC ?_ fun hc => ?_ | refine goD ?_ fun hc => ?_ | refine goE ?_ fun hc => ?_ | refine goF ?_ ?_ | refine goG ?_ ?_ | refine goH ?_ fun b hb => ?_) | refine goI ?_ | refine goJ ?_ ?_ | refine goK ?_ ?_ ?_ | refine goL ?_ ?_ ?_ ?_ | refine goM ?_ ?_ ?_ ?_ ?_ | refine goN ?_ ?_ | refine goO ?_ ?_ | with_reducible refine goP ?_)
  all_goals try conv => whnf
  all_goals try (refine aac.mk ?_; try dsimp only)
  all_goals (try simp only [aa3] at *)
  all_goals first
    | (refine stay ?_)
    | (first | trivial | omega | (simp (discharger := omega) only [wR]; omega) | (simp only [lnS]; omega) | (simp (discharger := omega) [-List.getD_eq_getElem?_getD, wR] <;> omega)) | skip
  all_goals
    first | rw [if_pos (by assumption)] | rw [if_neg (by assumption)]
    refine aa9.mk [] ?_ <;> (repeat' first | trivial | rfl | exact eqS _ _ | apply And.intro | apply eqA | apply eqB | apply eqC | apply eqD | apply eqE | apply eqF | apply eqG | apply eqH | apply eqI)
def aqm : Sm := fun args σ => match args, σ with
  | [.ptr 0 0, .agg [.int .u8 n_k, .str t]], [.cells ([.str s_c, .int .i64 (.ofNat a_c), .int .i64 (.ofNat e_c), .int .i64 c_c])] => some ((0 ≤ n_k ∧ n_k ≤ 255) ∧ (True ∧ (True)), .agg (eT (if (Cu.mk s_c a_c e_c c_c).c = 0 then ⟨(byte n_k), t⟩ else .no)), none)
  | _, _ => none
theorem bah : SOK 46 aqm := by
  intro args sg pre x r he hp
  unfold aqm at he
  split at he <;> cases he
  · rw [af3 (hp).1]; rw [acr (hp.2).1]; exact a35 (hp := hp.2.2) ..
theorem axw (b : UInt8) (s : List UInt8) (c : Cu) : c.word (b :: s) = if c.aa2 ≠ b then (c.byte.fail 3, false) else c.byte.word s := rfl
theorem bc1 (c : Cu) : c.word [] = (c, true) := rfl
theorem a37 (c : Cu) (k : UInt8) (t : List UInt8) (hp : c.ok ∧ t.length ≤ 100) : OK 48 ([.ptr 0 0, bv k, .str t]) ([.cells (eC c)]) (.agg (eT (if (c.word t).2 = true then ⟨k, []⟩ else .no))) (some [.cells (eC (c.word t).1)]) := by
  refine aa0 (C := cx [(44, adn), (49, ae9)]) (abh ⟨agu, ahx, trivial⟩) (fn := Try.f48) rfl rfl rfl rfl fun hw hs => ?_
  obtain ⟨hp, hl⟩ := hp
  have hk : k.toNat < 256 := k.toNat_lt
  have hkk : byte k.toNat = k := aaf _
  repeat' ((conv => whnf); first | with_reducible (first | refine go1 (fun j q h => ?_) fun h => ?_ | refine go2 ⟨rfl, rfl⟩ (fun h => ?_) fun j h => ?_ | refine go2 ?_ (fun h => ?_) fun j h => ?_ | refine goQ ?_ (fun h => ?_) fun h => ?_) | refine go3 ?_ ?_ | refine go4 ?_ ?_ | refine go5 ?_ | ((first | refine go6 ?_ ?_ | refine go7 ?_ ?_ | refine go8 ?_ ?_ | refine go9 ?_ ?_ | refine goA ?_ ?_) <;> intro h) | with_reducible (first | refine aai.mk _ rfl ?_ | refine goB ?_ fun hc => ?_ | refine goC ?_ fun hc => ?_ | refine goD ?_ fun hc => ?_ | refine goE ?_ fun hc => ?_ | refine goF ?_ ?_ | refine goG ?_ ?_ | refine goH ?_ fun b hb => ?_) | refine goI ?_ | refine goJ ?_ ?_ | refine goK ?_ ?_ ?_ | refine goL ?_ ?_ ?_ ?_ | refine goM ?_ ?_ ?_ ?_ ?_ | refine goN ?_ ?_ | refine goO ?_ ?_ | with_reducible refine goP ?_)
  all_goals try conv => whnf
  all_goals try (refine aac.mk ?_; try dsimp only)
  all_goals (try simp only [aa3] at *)
  all_goals first
    | (refine stay ?_)
    | (first | trivial | omega | (simp (discharger := omega) only [wR]; omega) | (simp only [lnS]; omega) | (simp (discharger := omega) [-List.getD_eq_getElem?_getD, wR] <;> omega)) | skip
  refine abt.mk (Nat × Cu) (fun | (i, d) => i ≤ t.length ∧ d.ok ∧ d.word (t.drop i) = c.word t) (fun | (i, d) => ⟨25, [(0, .ptr 0 0), (1, bv k), (2, .str t), (6, .ptr 1 0), (9, .int .i64 t.length), (10, .int .i64 i)], [.cells (eC d), .cells [.int .u8 0, .str []]], []⟩) (fun x => t.length - x.1) [] (0, c) ⟨by omega, hp, rfl⟩ ?_ (fun ⟨i, d⟩ ⟨hi, hd, he⟩ _ _ => ?_)
  · refine Go.VG.Sub.mk rfl ?_ ?_ ?_ ?_ <;> (repeat' first | trivial | rfl | exact eqS _ _ | apply And.intro | apply eqA | apply eqB | apply eqC | apply eqD | apply eqE | apply eqF | apply eqG | apply eqH | apply eqI)
  have hb : d.aa2.toNat < 256 := d.aa2.toNat_lt
  have hx : (t.getD i 0).toNat < 256 := UInt8.toNat_lt _
  have hbo := (agw hd 1).1
  have hdr : i < t.length → t.drop i = t.getD i 0 :: t.drop (i + 1) := fun h => by
    rw [List.drop_eq_getElem_cons h, List.getD_eq_getElem?_getD, List.getElem?_eq_getElem h]; rfl
  repeat' ((conv => whnf); first | with_reducible (first | refine go1 (fun j q h => ?_) fun h => ?_ | refine go2 ⟨rfl, rfl⟩ (fun h => ?_) fun j h => ?_ | refine go2 ?_ (fun h => ?_) fun j h => ?_ | refine goQ ?_ (fun h => ?_) fun h => ?_) | refine go3 ?_ ?_ | refine go4 ?_ ?_ | refine go5 ?_ | ((first | refine go6 ?_ ?_ | refine go7 ?_ ?_ | refine go8 ?_ ?_ | refine go9 ?_ ?_ | refine goA ?_ ?_) <;> intro h) | with_reducible (first | refine aai.mk _ rfl ?_ | refine goB ?_ fun hc => ?_ | refine goC ?_ fun hc => ?_ | refine goD ?_ fun hc => ?_ | refine goE ?_ fun hc => ?_ | refine goF ?_ ?_ | refine goG ?_ ?_ | refine goH ?_ fun b hb => ?_) | refine goI ?_ | refine goJ ?_ ?_ | refine goK ?_ ?_ ?_ | refine goL ?_ ?_ ?_ ?_ | refine goM ?_ ?_ ?_ ?_ ?_ | refine goN ?_ ?_ | refine goO ?_ ?_ | with_reducible refine goP ?_)
  all_goals try conv => whnf
  all_goals try (refine aac.mk ?_; try dsimp only)
  all_goals (try simp only [aa3] at *)
  all_goals first
    | (refine stay ?_)
    | (first | trivial | omega | (simp (discharger := omega) only [wR]; omega) | (simp only [lnS]; omega) | (simp (discharger := omega) [-List.getD_eq_getElem?_getD, wR] <;> omega)) | skip
  · rw [hdr (by omega), axw, if_neg (fun e => e (UInt8.toNat_inj.1 (by omega)))] at he
    refine ⟨[], (i + 1, d.byte), ⟨by omega, hbo, he⟩, ?_, by show t.length - (i + 1) < t.length - i; omega⟩
    refine Go.VG.Sub.mk rfl ?_ ?_ ?_ ?_ <;> (repeat' first | trivial | rfl | exact eqS _ _ | apply And.intro | apply eqA | apply eqB | apply eqC | apply eqD | apply eqE | apply eqF | apply eqG | apply eqH | apply eqI)
    all_goals (first | omega | (simp (discharger := omega) only [wR]; omega) | (simp only [lnS]; omega) | (simp (discharger := omega) [-List.getD_eq_getElem?_getD, wR] <;> omega))
  · rw [hdr (by omega), axw, if_pos (fun e => by have := congrArg UInt8.toNat e; omega)] at he
    rw [← he]
    refine aa9.mk [] ?_ <;> (repeat' first | trivial | rfl | exact eqS _ _ | apply And.intro | apply eqA | apply eqB | apply eqC | apply eqD | apply eqE | apply eqF | apply eqG | apply eqH | apply eqI)
  · rw [List.drop_eq_nil_of_le (by omega), bc1] at he
    rw [← he]
    refine aa9.mk [] ?_ <;> (repeat' first | trivial | rfl | exact eqS _ _ | apply And.intro | apply eqA | apply eqB | apply eqC | apply eqD | apply eqE | apply eqF | apply eqG | apply eqH | apply eqI)
def aqn : Sm := fun args σ => match args, σ with
  | [.ptr 0 0, .int .u8 n_k, .str t], [.cells ([.str s_c, .int .i64 (.ofNat a_c), .int .i64 (.ofNat e_c), .int .i64 c_c])] => some ((0 ≤ n_k ∧ n_k ≤ 255) ∧ (True ∧ ((Cu.mk s_c a_c e_c c_c).ok ∧ t.length ≤ 100)), .agg (eT (if ((Cu.mk s_c a_c e_c c_c).word t).2 = true then ⟨(byte n_k), []⟩ else .no)), some [.cells (eC ((Cu.mk s_c a_c e_c c_c).word t).1)])
  | _, _ => none
theorem bai : SOK 48 aqn := by
  intro args sg pre x r he hp
  unfold aqn at he
  split at he <;> cases he
  · rw [af3 (hp).1]; rw [acr (hp.2).1]; exact a37 (hp := hp.2.2) ..
theorem a36 (c : Cu) (hp : c.ok ∧ c.s.length ≤ 10000000) : OK 18 ([.ptr 0 0]) ([.cells (eC c)]) (.agg (eT c.next.2)) (some [.cells (eC c.next.1)]) := by
  refine aa0 (C := cx [(42, akp), (43, agp), (38, ahj), (44, adn), (45, aqk), (46, aqm), (47, aqh), (37, aey), (48, aqn), (49, ae9)]) (abh ⟨a3w, amv, apn, agu, baf, bah, bab, akg, bai, ahx, trivial⟩) (fn := Try.f18) rfl rfl rfl rfl fun hw hs => ?_
  obtain ⟨hp, hl⟩ := hp
  have hbk := avf hp
  have hbs : c.aba.s = c.s := by unfold Cu.aba; split <;> rfl
  have hb : c.aba.aa2.toNat < 256 := c.aba.aa2.toNat_lt
  have hbb : byte c.aba.aa2.toNat = c.aba.aa2 := aaf _
  repeat' ((conv => whnf); first | with_reducible (first | refine go1 (fun j q h => ?_) fun h => ?_ | refine go2 ⟨rfl, rfl⟩ (fun h => ?_) fun j h => ?_ | refine go2 ?_ (fun h => ?_) fun j h => ?_ | refine goQ ?_ (fun h => ?_) fun h => ?_) | refine go3 ?_ ?_ | refine go4 ?_ ?_ | refine go5 ?_ | ((first | refine go6 ?_ ?_ | refine go7 ?_ ?_ | refine go8 ?_ ?_ | refine go9 ?_ ?_ | refine goA ?_ ?_) <;> intro h) | with_reducible (first | refine aai.mk _ rfl ?_ | refine goB ?_ fun hc => ?_ | refine goC ?_ fun hc => ?_ | refine goD ?_ fun hc => ?_ | refine goE ?_ fun hc => ?_ | refine goF ?_ ?_ | refine goG ?_ ?_ | refine goH ?_ fun b hb => ?_) | refine goI ?_ | refine goJ ?_ ?_ | refine goK ?_ ?_ ?_ | refine goL ?_ ?_ ?_ ?_ | refine goM ?_ ?_ ?_ ?_ ?_ | refine goN ?_ ?_ | refine goO ?_ ?_ | with_reducible refine goP ?_)
  all_goals try conv => whnf
  all_goals try (refine aac.mk ?_; try dsimp only)
  all_goals (try simp only [aa3] at *)
  all_goals first
    | (refine stay ?_)
    | (first | trivial | omega | (simp (discharger := omega) only [wR]; omega) | (simp only [lnS]; omega) | (simp (discharger := omega) [-List.getD_eq_getElem?_getD, wR] <;> omega)) | skip
  all_goals (try simp only [hbb] at *)
  all_goals first
    | exact ⟨trivial, hbk⟩
    | exact ⟨trivial, hbk, by rw [hbs]; omega⟩
    | exact ⟨by omega, trivial⟩
    | (exfalso; omega)
    | skip
  all_goals
    have hh : c.aba.has ∨ ¬ c.aba.has := Decidable.em _
    have sT : ach c.aba.aa2 = true ↔ (c.aba.aa2.toNat = 123 ∨ c.aba.aa2.toNat = 125 ∨ c.aba.aa2.toNat = 91 ∨ c.aba.aa2.toNat = 93 ∨ c.aba.aa2.toNat = 58 ∨ c.aba.aa2.toNat = 44) := decide_eq_true_iff
    have dT := ap7 (b := c.aba.aa2)
    unfold Cu.next Cu.a8v
    first
    | rw [if_pos (show ¬ c.aba.has by assumption)]
    | rw [if_neg (fun q => q (show c.aba.has by assumption))]
    repeat (first | rw [if_pos (by rw [sT]; omega)] | rw [if_neg (by rw [sT]; omega)] | rw [if_pos (by rw [dT]; omega)] | rw [if_neg (by rw [dT]; omega)] | rw [if_pos (by omega)] | rw [if_neg (by omega)])
    try unfold held Cu.a4w
    try rw [show (byte 116).toNat = 116 from rfl]
    refine aa9.mk [] ?_ <;> (repeat' first | trivial | rfl | exact eqS _ _ | apply And.intro | apply eqA | apply eqB | apply eqC | apply eqD | apply eqE | apply eqF | apply eqG | apply eqH | apply eqI)
def ag8 : Sm := fun args σ => match args, σ with
  | [.ptr 0 0], [.cells ([.str s_c, .int .i64 (.ofNat a_c), .int .i64 (.ofNat e_c), .int .i64 c_c])] => some (True ∧ ((Cu.mk s_c a_c e_c c_c).ok ∧ (Cu.mk s_c a_c e_c c_c).s.length ≤ 10000000), .agg (eT (Cu.mk s_c a_c e_c c_c).next.2), some [.cells (eC (Cu.mk s_c a_c e_c c_c).next.1)])
  | _, _ => none
theorem alb : SOK 18 ag8 := by
  intro args sg pre x r he hp
  unfold ag8 at he
  split at he <;> cases he
  · rw [acr (hp).1]; exact a36 (hp := hp.2) ..
end Go.Proofs.Ytllncocibkgjkaa
