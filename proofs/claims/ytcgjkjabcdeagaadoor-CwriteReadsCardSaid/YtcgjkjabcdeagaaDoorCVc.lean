/-
  Going past values: the walks.
-/
import Derived.Test.YtcgjkjabcdeagaaDoorCVb
set_option linter.unusedSimpArgs false
set_option linter.unusedVariables false
set_option maxHeartbeats 4000000
namespace Go.Proofs.YtcgjkjabcdeagaaDoor
open Go Go.VG
set_option maxRecDepth 100000
/-- what a step of a cursor keeps -/
def Kp (c d : Cu) : Prop := d.ok ∧ d.s = c.s ∧ d.e = c.e ∧ c.p ≤ d.p
theorem Kp.rfl {c : Cu} (h : c.ok) : Kp c c := ⟨h, Eq.refl _, Eq.refl _, Nat.le_refl _⟩
theorem Kp.trans {a b c : Cu} (h : Kp a b) (g : Kp b c) : Kp a c := ⟨g.1, g.2.1.trans h.2.1, g.2.2.1.trans h.2.2.1, Nat.le_trans h.2.2.2 g.2.2.2⟩
theorem Kp.pass {c : Cu} (h : c.ok) (n : Int) : Kp c (c.pass n) := by
  have := pass_ok h n
  refine ⟨this.1, this.2.1, this.2.2, ?_⟩
  unfold Cu.pass
  repeat' split
  all_goals (try exact Nat.le_refl _)
  exact Nat.le_add_right _ _
theorem Kp.fail {c : Cu} (h : c.ok) (k : Int) : Kp c (c.fail k) := by
  have := fail_ok h k
  exact ⟨this.1, this.2.1, this.2.2.1, Nat.le_of_eq this.2.2.2.symm⟩
theorem vrGo_kp : ∀ (j i u : Nat) (c : Cu), c.ok → Kp c (vrGo j i u c).2
  | 0, _, _, c, h => Kp.fail h 4
  | j + 1, i, u, c, h => by
    have hb := Kp.pass h 1
    rw [vrGo]
    repeat' split
    · exact hb
    · exact hb.trans (Kp.fail hb.1 4)
    · exact hb
    · exact hb.trans (vrGo_kp j _ _ _ hb.1)
theorem Kp.vread {c : Cu} (h : c.ok) : Kp c c.vread.2 := vrGo_kp 10 0 0 c h
theorem Kp.text {c : Cu} (h : c.ok) : Kp c c.text.2 := by
  have hv := Kp.vread h
  unfold Cu.text
  dsimp only
  split
  · exact hv.trans (Kp.fail hv.1 1)
  · exact hv.trans (Kp.pass hv.1 _)
theorem Kp.csize {c : Cu} (h : c.ok) : Kp c c.csize.2 := by
  have hv := Kp.vread h
  unfold Cu.csize
  repeat' split
  · exact hv.trans (Kp.fail hv.1 4)
  · exact hv
  · exact hv
theorem Kp.lhd {c : Cu} (h : c.ok) : Kp c c.lhd.2 := by
  have hb := Kp.pass h 1
  have hs := Kp.csize hb.1
  unfold Cu.lhd
  repeat' split
  · exact hb
  · exact hb.trans hs
  · exact hb.trans hs
  · exact hb
  · exact hb.trans (Kp.fail hb.1 7)
theorem Kp.mhd {c : Cu} (h : c.ok) : Kp c c.mhd.2 := by
  have hs := Kp.csize h
  have hb := hs.trans (Kp.pass hs.1 1)
  unfold Cu.mhd
  repeat' split
  · exact hs
  · exact hb
  · exact hb
  · exact hb.trans (Kp.fail hb.1 7)
theorem Kp.fldE {c d : Cu} (h : Kp c d) (id k : Int) : Kp c (fldE id k d).2 := by
  unfold Go.Proofs.YtcgjkjabcdeagaaDoor.fldE
  repeat' split
  · exact h
  · exact h.trans (Kp.fail h.1 4)
  · exact h
theorem Kp.fld {c : Cu} (h : c.ok) (last : Int) : Kp c (c.fld last).2 := by
  have hb := Kp.pass h 1
  have hv := hb.trans (Kp.vread hb.1)
  unfold Cu.fld
  repeat' split
  · exact hb
  · exact hb
  · exact Kp.fldE hb _ _
  · exact Kp.fldE hv _ _
  · exact hb.trans (Kp.fail hb.1 7)
theorem byte_p {c : Cu} (h : c.ok) (h0 : c.byte.c = 0) : c.p < c.byte.p := by
  unfold Cu.byte Cu.pass at h0 ⊢
  by_cases q1 : c.c ≠ 0
  · rw [if_pos q1] at h0; exact absurd h0 q1
  rw [if_neg q1] at h0 ⊢
  by_cases q2 : (1 : Int) < 0
  · omega
  rw [if_neg q2] at h0 ⊢
  by_cases q3 : (1 : Int) > c.e - c.p
  · rw [if_pos q3] at h0; cases h0
  rw [if_neg q3]
  show c.p < c.p + 1
  omega
theorem fldE_kp {d : Cu} {id k : Int} (h : (fldE id k d).1.2 ≠ 0) : (fldE id k d).2 = d ∧ d.c = 0 := by
  unfold fldE at h ⊢
  split at h
  · exact absurd rfl h
  split at h
  · exact absurd rfl h
  rename_i h1 h2
  rw [if_neg h1, if_neg h2]
  exact ⟨rfl, Decidable.not_not.1 h1⟩
/-- a field's head is a byte at least -/
theorem fld_p {c : Cu} (h : c.ok) {last : Int} (hk : (c.fld last).1.2 ≠ 0) : c.p < (c.fld last).2.p ∧ (c.fld last).2.c = 0 := by
  have hb := Kp.pass h 1
  unfold Cu.fld at hk ⊢
  split at hk
  · exact absurd rfl hk
  rename_i h1
  split at hk
  · exact absurd rfl hk
  rename_i h2
  split at hk
  · rename_i h3
    split at hk
    · rename_i h4
      obtain ⟨e1, e2⟩ := fldE_kp hk
      rw [if_neg h1, if_neg h2, if_pos h3, if_pos h4, e1]
      exact ⟨byte_p h e2, e2⟩
    · rename_i h4
      obtain ⟨e1, e2⟩ := fldE_kp hk
      rw [if_neg h1, if_neg h2, if_pos h3, if_neg h4, e1]
      have := Kp.vread hb.1
      have hp := byte_p h (Decidable.not_not.1 h1)
      exact ⟨Nat.lt_of_lt_of_le hp this.2.2.2, e2⟩
  · exact absurd rfl hk
def KpF (v : SF) : Prop := ∀ k c, c.ok → Kp c (v k c)
theorem skI_kp {v : SF} (hv : KpF v) : KpF (skI v) := fun k c h => by
  have hb := Kp.pass h 1
  unfold skI
  repeat' split
  · exact hb.trans (Kp.fail hb.1 3)
  · exact hb
  · exact hv k c h
theorem skN_kp {f : Cu → Cu} (hf : ∀ c, c.ok → Kp c (f c)) : ∀ (n : Nat) (c : Cu), c.ok → Kp c (skN f n c)
  | 0, c, h => Kp.rfl h
  | n + 1, c, h => by
    rw [skN]
    split
    · exact Kp.rfl h
    · exact (hf c h).trans (skN_kp hf n _ (hf c h).1)
theorem skFs_kp {v : SF} (hv : KpF v) : ∀ (n : Nat) (c : Cu) (last : Int), c.ok → Kp c (skFs v n c last)
  | 0, c, _, h => Kp.rfl h
  | n + 1, c, last, h => by
    have hf := Kp.fld h last
    rw [skFs]
    repeat' split
    · exact Kp.rfl h
    · exact hf
    · exact (hf.trans (hv _ _ hf.1)).trans (skFs_kp hv n _ _ (hv _ _ hf.1).1)
theorem skLeaf_kp : KpF skLeaf := fun k c h => by
  unfold skLeaf
  repeat' split
  · exact Kp.rfl h
  · exact Kp.pass h 1
  · exact Kp.vread h
  · exact Kp.pass h 8
  · exact Kp.text h
  · exact Kp.fail h 7
theorem skV_kp : ∀ d, KpF (skV d)
  | 0 => fun k c h => by
    rw [skV]; split
    · exact Kp.fail h 33
    · exact skLeaf_kp k c h
  | d + 1 => fun k c h => by
    have hv := skV_kp d
    have hl := Kp.lhd h
    have hm := Kp.mhd h
    rw [skV]
    repeat' split
    · exact hl.trans (skN_kp (fun c h => skI_kp hv _ c h) _ _ hl.1)
    · exact hm.trans (skN_kp (fun c h => (skI_kp hv _ c h).trans (skI_kp hv _ _ (skI_kp hv _ c h).1)) _ _ hm.1)
    · exact skFs_kp hv _ _ _ h
    · exact skLeaf_kp k c h
theorem csize_b (c : Cu) : 0 ≤ c.csize.1 ∧ c.csize.1 ≤ 2147483647 := by
  unfold Cu.csize
  repeat' split
  all_goals (dsimp only; omega)
theorem lhd_b (c : Cu) : (0 ≤ c.lhd.1.1 ∧ c.lhd.1.1 ≤ 2147483647) ∧ 0 ≤ c.lhd.1.2 ∧ c.lhd.1.2 ≤ 15 := by
  have := csize_b c.byte
  have h256 := c.byteV.toNat_lt
  unfold Cu.lhd
  repeat' split
  all_goals (dsimp only; omega)
theorem mhd_b (c : Cu) : (0 ≤ c.mhd.1.1 ∧ c.mhd.1.1 ≤ 2147483647) ∧ (0 ≤ c.mhd.1.2.1 ∧ c.mhd.1.2.1 ≤ 15) ∧ 0 ≤ c.mhd.1.2.2 ∧ c.mhd.1.2.2 ≤ 15 := by
  have := csize_b c
  have h256 := c.csize.2.byteV.toNat_lt
  unfold Cu.mhd
  repeat' split
  all_goals (dsimp only; omega)
theorem u4 {n : Nat} (h : n < 256) : iAnd .u8 (n : Int) 15 = ((n % 16 : Nat) : Int) ∧ iShr .u8 (n : Int) 4 = ((n / 16 : Nat) : Int) ∧ IntKind.i64.wrap ((n / 16 : Nat) : Int) = ((n / 16 : Nat) : Int) := by
  have e : iShr .u8 (n : Int) 4 = ((n / 16 : Nat) : Int) := by
    show (n : Int).fdiv 16 = _
    rw [Int.fdiv_eq_ediv_of_nonneg _ (by decide)]; omega
  exact ⟨iAnd_u8_15 _ (by omega), e, by rw [wi64]; omega⟩
theorem f_hSize_1 (c : Cu) (hp : c.ok) : OK 88 ([.ptr 0 0]) ([.cells (eC c)]) (.int .i64 c.csize.1) (some [.cells (eC c.csize.2)]) := by
  refine funOK_of_vc (C := cx [(58, sm_vRead), (32, sm_cErr), (56, sm_cFail)]) (good ⟨k_vRead, k_cErr, k_cFail, trivial⟩) (fn := Tryd.f88) rfl rfl rfl rfl fun hw hs => ?_
  have h1 := @vread_lt c
  have hv := vread_ok hp
  repeat' ((conv => whnf); first | with_reducible (first | refine go1 (fun j q h => ?_) fun h => ?_ | refine go2 ⟨rfl, rfl⟩ (fun h => ?_) fun j h => ?_ | refine go2 ?_ (fun h => ?_) fun j h => ?_ | refine goQ ?_ (fun h => ?_) fun h => ?_) | apply go3 | apply go4 | apply go5 | ((first | apply go6 | apply go7 | apply go8 | apply go9 | apply goA) <;> intro h) | with_reducible (first | refine IdxK.mk _ rfl ?_ | refine goB ?_ fun hc => ?_ | refine goC ?_ fun hc => ?_ | refine goD ?_ fun hc => ?_ | refine goE ?_ fun hc => ?_ | apply goF | apply goG | refine goH ?_ fun b hb => ?_) | apply goI | apply goJ | apply goK | apply goL | apply goM | apply goN | apply goO | with_reducible refine goP ?_)
  all_goals try conv => whnf
  all_goals try (refine Side.mk ?_; try dsimp only)
  all_goals (try simp only [Cu_eta] at *)
  all_goals first | refine stay ?_ | trivial | omega | (simp (discharger := omega) only [wR]; omega) | (simp only [lnS]; omega) | (simp (discharger := omega) [-List.getD_eq_getElem?_getD, wR] <;> omega) | skip
  all_goals (try (exfalso; exact absurd (by assumption) (failC_code (c := c.vread.2) (k := 4) (by decide))))
  all_goals
    have he : c.csize = c.csize := rfl
    conv at he => rhs; unfold Cu.csize
    repeat (first | rw [if_pos (by first | assumption | omega)] at he | rw [if_neg (by first | assumption | omega)] at he)
    first
    | (rw [he]
       refine EndP.mk [] ?_ <;> (repeat' first | trivial | rfl | exact eqS _ _ | apply andI | apply eqA | apply eqB | apply eqC | apply eqD | apply eqE | apply eqF | apply eqG | apply eqH | apply eqI)
       done)
    | (rw [he]
       refine EndP.mk [] ?_ <;> (repeat' first | trivial | rfl | exact eqS _ _ | apply andI | apply eqA | apply eqB | apply eqC | apply eqD | apply eqE | apply eqF | apply eqG | apply eqH | apply eqI)
       all_goals (rw [wi64]; omega)
       done)
    | skip
def sm_hSize : Sm := fun args σ => match args, σ with
  | [.ptr 0 0], [.cells ([.str s_c, .int .i64 (.ofNat a_c), .int .i64 (.ofNat e_c), .int .i64 c_c])] => some (True ∧ ((Cu.mk s_c a_c e_c c_c).ok), .int .i64 (Cu.mk s_c a_c e_c c_c).csize.1, some [.cells (eC (Cu.mk s_c a_c e_c c_c).csize.2)])
  | _, _ => none
theorem k_hSize : SOK 88 sm_hSize := by
  intro args sg pre x r he hp
  unfold sm_hSize at he
  split at he <;> cases he
  · rw [viewC (hp).1]; exact f_hSize_1 (hp := hp.2) ..
theorem f_hList_1 (c : Cu) (hp : c.ok) : OK 85 ([.ptr 0 0]) ([.cells (eC c)]) (.tuple [.int .i64 c.lhd.1.1, .int .u8 c.lhd.1.2]) (some [.cells (eC c.lhd.2)]) := by
  refine funOK_of_vc (C := cx [(54, sm_cByte), (32, sm_cErr), (55, sm_cIs), (56, sm_cFail), (88, sm_hSize)]) (good ⟨k_cByte, k_cErr, k_cIs, k_cFail, k_hSize, trivial⟩) (fn := Tryd.f85) rfl rfl rfl rfl fun hw hs => ?_
  have hb := pass_ok hp 1
  have h256 := c.byteV.toNat_lt
  obtain ⟨a1, a2, a3⟩ := u4 h256
  repeat' ((conv => whnf); first | with_reducible (first | refine go1 (fun j q h => ?_) fun h => ?_ | refine go2 ⟨rfl, rfl⟩ (fun h => ?_) fun j h => ?_ | refine go2 ?_ (fun h => ?_) fun j h => ?_ | refine goQ ?_ (fun h => ?_) fun h => ?_) | apply go3 | apply go4 | apply go5 | ((first | apply go6 | apply go7 | apply go8 | apply go9 | apply goA) <;> intro h) | with_reducible (first | refine IdxK.mk _ rfl ?_ | refine goB ?_ fun hc => ?_ | refine goC ?_ fun hc => ?_ | refine goD ?_ fun hc => ?_ | refine goE ?_ fun hc => ?_ | apply goF | apply goG | refine goH ?_ fun b hb => ?_) | apply goI | apply goJ | apply goK | apply goL | apply goM | apply goN | apply goO | with_reducible refine goP ?_)
  all_goals try conv => whnf
  all_goals try (refine Side.mk ?_; try dsimp only)
  all_goals (try simp only [a1, a2, a3, Int.toNat_natCast] at *)
  all_goals (try simp only [Cu_eta] at *)
  all_goals first | refine stay ?_ | trivial | omega | (simp (discharger := omega) only [wR]; omega) | (simp only [lnS]; omega) | (simp (discharger := omega) [-List.getD_eq_getElem?_getD, wR] <;> omega) | skip
  all_goals first
    | exact ⟨trivial, hb.1⟩
    | (exfalso; exact absurd (by assumption) (failC_code (c := c.byte) (k := 7) (by decide)))
    | (exfalso; omega)
    | skip
  all_goals
    have he : c.lhd = c.lhd := rfl
    conv at he => rhs; unfold Cu.lhd
    repeat (first | rw [if_pos (by first | assumption | omega | exact isK_t.2 (by assumption) | exact ⟨isK_t.2 (by assumption), isK_t.2 (by assumption)⟩)] at he | rw [if_neg (by first | assumption | omega | exact fun q => absurd (isK_t.1 q) (by assumption) | exact fun q => absurd (isK_t.1 q.1) (by assumption) | exact fun q => absurd (isK_t.1 q.2) (by assumption))] at he)
    first
    | (rw [he]
       refine EndP.mk [] ?_ <;> (repeat' first | trivial | rfl | exact eqS _ _ | apply andI | apply eqA | apply eqB | apply eqC | apply eqD | apply eqE | apply eqF | apply eqG | apply eqH | apply eqI)
       done)
def sm_hList : Sm := fun args σ => match args, σ with
  | [.ptr 0 0], [.cells ([.str s_c, .int .i64 (.ofNat a_c), .int .i64 (.ofNat e_c), .int .i64 c_c])] => some (True ∧ ((Cu.mk s_c a_c e_c c_c).ok), .tuple [.int .i64 (Cu.mk s_c a_c e_c c_c).lhd.1.1, .int .u8 (Cu.mk s_c a_c e_c c_c).lhd.1.2], some [.cells (eC (Cu.mk s_c a_c e_c c_c).lhd.2)])
  | _, _ => none
theorem k_hList : SOK 85 sm_hList := by
  intro args sg pre x r he hp
  unfold sm_hList at he
  split at he <;> cases he
  · rw [viewC (hp).1]; exact f_hList_1 (hp := hp.2) ..
theorem f_hMap_1 (c : Cu) (hp : c.ok) : OK 87 ([.ptr 0 0]) ([.cells (eC c)]) (.tuple [.int .i64 c.mhd.1.1, .int .u8 c.mhd.1.2.1, .int .u8 c.mhd.1.2.2]) (some [.cells (eC c.mhd.2)]) := by
  refine funOK_of_vc (C := cx [(54, sm_cByte), (32, sm_cErr), (55, sm_cIs), (56, sm_cFail), (88, sm_hSize)]) (good ⟨k_cByte, k_cErr, k_cIs, k_cFail, k_hSize, trivial⟩) (fn := Tryd.f87) rfl rfl rfl rfl fun hw hs => ?_
  have hz := Kp.csize hp
  have h256 := c.csize.2.byteV.toNat_lt
  obtain ⟨a1, a2, a3⟩ := u4 h256
  repeat' ((conv => whnf); first | with_reducible (first | refine go1 (fun j q h => ?_) fun h => ?_ | refine go2 ⟨rfl, rfl⟩ (fun h => ?_) fun j h => ?_ | refine go2 ?_ (fun h => ?_) fun j h => ?_ | refine goQ ?_ (fun h => ?_) fun h => ?_) | apply go3 | apply go4 | apply go5 | ((first | apply go6 | apply go7 | apply go8 | apply go9 | apply goA) <;> intro h) | with_reducible (first | refine IdxK.mk _ rfl ?_ | refine goB ?_ fun hc => ?_ | refine goC ?_ fun hc => ?_ | refine goD ?_ fun hc => ?_ | refine goE ?_ fun hc => ?_ | apply goF | apply goG | refine goH ?_ fun b hb => ?_) | apply goI | apply goJ | apply goK | apply goL | apply goM | apply goN | apply goO | with_reducible refine goP ?_)
  all_goals try conv => whnf
  all_goals try (refine Side.mk ?_; try dsimp only)
  all_goals (try simp only [a1, a2, a3, Int.toNat_natCast] at *)
  all_goals (try simp only [Cu_eta] at *)
  all_goals first | refine stay ?_ | trivial | omega | (simp (discharger := omega) only [wR]; omega) | (simp only [lnS]; omega) | (simp (discharger := omega) [-List.getD_eq_getElem?_getD, wR] <;> omega) | skip
  all_goals first
    | exact ⟨trivial, hz.1⟩
    | (exfalso; exact absurd (by assumption) (failC_code (c := c.csize.2.byte) (k := 7) (by decide)))
    | (exfalso; omega)
    | skip
  all_goals
    have he : c.mhd = c.mhd := rfl
    conv at he => rhs; unfold Cu.mhd
    repeat (first | rw [if_pos (by first | assumption | omega | exact isK_t.2 (by assumption) | exact ⟨isK_t.2 (by assumption), isK_t.2 (by assumption)⟩)] at he | rw [if_neg (by first | assumption | omega | exact fun q => absurd (isK_t.1 q) (by assumption) | exact fun q => absurd (isK_t.1 q.1) (by assumption) | exact fun q => absurd (isK_t.1 q.2) (by assumption))] at he)
    first
    | (rw [he]
       refine EndP.mk [] ?_ <;> (repeat' first | trivial | rfl | exact eqS _ _ | apply andI | apply eqA | apply eqB | apply eqC | apply eqD | apply eqE | apply eqF | apply eqG | apply eqH | apply eqI)
       done)
def sm_hMap : Sm := fun args σ => match args, σ with
  | [.ptr 0 0], [.cells ([.str s_c, .int .i64 (.ofNat a_c), .int .i64 (.ofNat e_c), .int .i64 c_c])] => some (True ∧ ((Cu.mk s_c a_c e_c c_c).ok), .tuple [.int .i64 (Cu.mk s_c a_c e_c c_c).mhd.1.1, .int .u8 (Cu.mk s_c a_c e_c c_c).mhd.1.2.1, .int .u8 (Cu.mk s_c a_c e_c c_c).mhd.1.2.2], some [.cells (eC (Cu.mk s_c a_c e_c c_c).mhd.2)])
  | _, _ => none
theorem k_hMap : SOK 87 sm_hMap := by
  intro args sg pre x r he hp
  unfold sm_hMap at he
  split at he <;> cases he
  · rw [viewC (hp).1]; exact f_hMap_1 (hp := hp.2) ..
end Go.Proofs.YtcgjkjabcdeagaaDoor
