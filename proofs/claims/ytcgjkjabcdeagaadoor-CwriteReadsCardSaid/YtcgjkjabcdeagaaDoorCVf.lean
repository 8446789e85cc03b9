/-
  Reading of a struct with fields of all kinds; what was written is read.
-/
import Derived.Test.YtcgjkjabcdeagaaDoorCVe
set_option linter.unusedSimpArgs false
set_option linter.unusedVariables false
set_option maxHeartbeats 4000000
namespace Go.Proofs.YtcgjkjabcdeagaaDoor
open Go Go.VG
set_option maxRecDepth 100000
def sGoA (k : Nat) : Nat → Cu → Int → List Fd → Option (List Fd × Cu)
  | 0, _, _, _ => none
  | n + 1, c, last, acc =>
    if (c.fld last).1.2 = 0 then some (acc, (c.fld last).2)
    else sGoA k n (valA k ⟨(c.fld last).1.1, (c.fld last).1.2, 0, 0, [], []⟩ (c.fld last).2).2 (c.fld last).1.1 (acc ++ [(valA k ⟨(c.fld last).1.1, (c.fld last).1.2, 0, 0, [], []⟩ (c.fld last).2).1])
def aRun (k : Nat) (s : List UInt8) : Option (List Fd × Cu) := sGoA k (s.length + 1) (Cu.new s) 0 []
def aFds (k : Nat) (s : List UInt8) : List Fd := match aRun k s with
  | some r => r.1
  | none => []
def aAt (k : Nat) (s : List UInt8) : Nat := match aRun k s with
  | some r => r.2.p
  | none => 0
def aFine (k : Nat) (s : List UInt8) : Prop := ∃ r, aRun k s = some r ∧ r.2.c = 0
theorem f_rStructA_1 (k : Nat) (hv : SOK 31 (sm_rValA k)) (s : List UInt8) (d : Int) (hp : aFine k s ∧ s.length ≤ 2000000000 ∧ d + k + 1 = 32) : OK 12 ([.str s, .int .i64 d]) ([]) (.tuple [.buf 0, .int .i64 (aAt k s), .int .i64 0]) (some [.buf 6 0 ((aFds k s).map eFd)]) := by
  refine funOK_of_vc (C := cx [(29, sm_rOpen), (30, sm_hField), (31, (sm_rValA k)), (32, sm_cErr), (33, sm_cAt)]) (good ⟨k_rOpen, k_hField, hv, k_cErr, k_cAt, trivial⟩) (fn := Tryd.f12) rfl rfl rfl rfl fun hw hs => ?_
  obtain ⟨⟨r, hr, hc⟩, hl, hd⟩ := hp
  have hd1 : -9223372036854775808 ≤ d := hw.2.1.1
  have hf : aFds k s = r.1 := by unfold aFds; rw [hr]
  have ha : aAt k s = r.2.p := by unfold aAt; rw [hr]
  rw [hf, ha]
  repeat' ((conv => whnf); first | with_reducible (first | refine go1 (fun j q h => ?_) fun h => ?_ | refine go2 ⟨rfl, rfl⟩ (fun h => ?_) fun j h => ?_ | refine go2 ?_ (fun h => ?_) fun j h => ?_ | refine goQ ?_ (fun h => ?_) fun h => ?_) | apply go3 | apply go4 | apply go5 | ((first | apply go6 | apply go7 | apply go8 | apply go9 | apply goA) <;> intro h) | with_reducible (first | refine IdxK.mk _ rfl ?_ | refine goB ?_ fun hc => ?_ | refine goC ?_ fun hc => ?_ | refine goD ?_ fun hc => ?_ | refine goE ?_ fun hc => ?_ | apply goF | apply goG | refine goH ?_ fun b hb => ?_) | apply goI | apply goJ | apply goK | apply goL | apply goM | apply goN | apply goO | with_reducible refine goP ?_)
  all_goals try conv => whnf
  all_goals try (refine Side.mk ?_; try dsimp only)
  · exfalso; omega
  refine LoopP.mk (Nat × Cu × Int × List Fd) (fun (n, c, last, acc) => c.ok ∧ c.s = s ∧ acc.length + n ≤ s.length + 1 ∧ sGoA k n c last acc = some r) (fun (n, c, last, acc) => ⟨56, [(1, .int .i64 d), (4, .buf 2), (7, .ptr 1 0), (8, .int .i64 last)], [.cells (eC c), .cells [.str s, .ptr 0 0], .buf 6 0 (acc.map eFd)], [2]⟩) (fun x => x.1) [.tm 4 6] (s.length + 1, .new s, 0, []) ⟨new_ok s, rfl, by simp, hr⟩ ?_ (fun ⟨n, c, last, acc⟩ ⟨h1, h2, h3, h4⟩ _ _ => ?_)
  · refine Go.VG.Sub.mk rfl ?_ ?_ ?_ ?_ <;> (repeat' first | trivial | rfl | exact eqS _ _ | apply andI | apply eqA | apply eqB | apply eqC | apply eqD | apply eqE | apply eqF | apply eqG | apply eqH | apply eqI)
  cases n with
  | zero => rw [sGoA] at h4; cases h4
  | succ n =>
  rw [sGoA] at h4
  have hfo := Kp.fld h1 last
  have hvo := Kp.valA hfo.1 k ⟨(c.fld last).1.1, (c.fld last).1.2, 0, 0, [], []⟩
  repeat' ((conv => whnf); first | with_reducible (first | refine go1 (fun j q h => ?_) fun h => ?_ | refine go2 ⟨rfl, rfl⟩ (fun h => ?_) fun j h => ?_ | refine go2 ?_ (fun h => ?_) fun j h => ?_ | refine goQ ?_ (fun h => ?_) fun h => ?_) | apply go3 | apply go4 | apply go5 | ((first | apply go6 | apply go7 | apply go8 | apply go9 | apply goA) <;> intro h) | with_reducible (first | refine IdxK.mk _ rfl ?_ | refine goB ?_ fun hc => ?_ | refine goC ?_ fun hc => ?_ | refine goD ?_ fun hc => ?_ | refine goE ?_ fun hc => ?_ | apply goF | apply goG | refine goH ?_ fun b hb => ?_) | apply goI | apply goJ | apply goK | apply goL | apply goM | apply goN | apply goO | with_reducible refine goP ?_)
  all_goals try conv => whnf
  all_goals try (refine Side.mk ?_; try dsimp only)
  all_goals (try simp only [Cu_eta] at *)
  all_goals first | refine stay ?_ | trivial | omega | (simp (discharger := omega) only [wR]; omega) | (simp only [lnS]; omega) | (simp (discharger := omega) [-List.getD_eq_getElem?_getD, wR] <;> omega) | skip
  · rw [if_pos (by assumption)] at h4
    cases h4
    refine EndP.mk [.swap 0 2] ?_ <;> (repeat' first | trivial | rfl | exact eqS _ _ | apply andI | apply eqA | apply eqB | apply eqC | apply eqD | apply eqE | apply eqF | apply eqG | apply eqH | apply eqI)
  · rw [if_pos (by assumption)] at h4
    cases h4
    exact absurd hc (by assumption)
  · exact ⟨trivial, trivial, hfo.1, by rw [hfo.2.1, h2]; omega, by rw [wi64]; omega, by rw [hfo.2.1, h2]⟩
  · rw [if_neg (by assumption)] at h4
    refine ⟨[], (n, _, _, _), ⟨hvo.1, by rw [hvo.2.1, hfo.2.1, h2], by rw [List.length_append, List.length_singleton]; omega, h4⟩, ?_, by show n < n + 1; omega⟩
    refine Go.VG.Sub.mk rfl ?_ ?_ ?_ ?_ <;> (repeat' first | trivial | rfl | exact eqS _ _ | apply andI | apply eqA | apply eqB | apply eqC | apply eqD | apply eqE | apply eqF | apply eqG | apply eqH | apply eqI)
    all_goals (first | rfl | (simp; done))
def sm_rStructA (k : Nat) : Sm := fun args σ => match args, σ with
  | [.str s, .int .i64 d], [] => some (aFine k s ∧ s.length ≤ 2000000000 ∧ d + k + 1 = 32, .tuple [.buf 0, .int .i64 (aAt k s), .int .i64 0], some [.buf 6 0 ((aFds k s).map eFd)])
  | _, _ => none
theorem k_rStructA (k : Nat) (hv : SOK 31 (sm_rValA k)) : SOK 12 (sm_rStructA k) := by
  intro args sg pre x r he hp
  unfold sm_rStructA at he
  split at he <;> cases he
  · exact f_rStructA_1 (hv := hv) (hp := hp) ..
theorem low64_put {s : List UInt8} {p u : Nat} (hr : Rd s (low 8 u) p) : (cu s p).low64.2 = cu s (p + (low 8 u).length) := (cu_take (n := 8) hr (by rw [low_length]; rfl)).2
/-- a value that was written is read -/
theorem valA_put {k : Int} {x : List UInt8} {d : Nat} (h : VT d k x) (id : Int) (s : List UInt8) (p : Nat) (hr : Rd s x p) : (valA d ⟨id, k, 0, 0, [], []⟩ (cu s p)).2 = cu s (p + x.length) := by
  have hs := h.skip s p hr
  unfold valA
  dsimp only
  cases h with
  | no d k h =>
    rcases h with rfl | rfl
    · rw [if_pos rfl]; rfl
    · rw [if_neg (by decide), if_pos rfl]; rfl
  | one d b =>
    rw [if_neg (by decide), if_neg (by decide), if_pos rfl]
    exact (cu_byte hr).1
  | num d k n h hf hn =>
    have e : ∀ b : Int, b = bitsK k → ((cu s p).numB b).2 = cu s (p + (vput (zigN n)).length) := fun b hb => by
      have hv := vread_put (v := zigN n) (by have := zigN_lt hn; omega) hr
      unfold Cu.numB
      rw [hv]
      dsimp only
      rw [if_neg (show ¬ (cu s _).c ≠ 0 from fun h => h rfl), zag_zig, hb, if_neg (show ¬ fitC n (bitsK k) ≠ 0 from fun q => q hf)]
    rcases h with rfl | rfl | rfl
    · rw [if_neg (by decide), if_neg (by decide), if_neg (by decide), if_pos rfl]; exact e 16 rfl
    · rw [if_neg (by decide), if_neg (by decide), if_neg (by decide), if_neg (by decide), if_pos rfl]; exact e 32 rfl
    · rw [if_neg (by decide), if_neg (by decide), if_neg (by decide), if_neg (by decide), if_neg (by decide), if_pos rfl]; exact e 64 rfl
  | dbl d u h =>
    rw [if_neg (by decide), if_neg (by decide), if_neg (by decide), if_neg (by decide), if_neg (by decide), if_neg (by decide), if_pos rfl]
    exact low64_put hr
  | txt d t h =>
    rw [if_neg (by decide), if_neg (by decide), if_neg (by decide), if_neg (by decide), if_neg (by decide), if_neg (by decide), if_neg (by decide), if_pos rfl, text_put (by omega) hr]
  | lst d k l hk hn h ht =>
    rw [if_neg (by decide), if_neg (by decide), if_neg (by decide), if_neg (by decide), if_neg (by decide), if_neg (by decide), if_neg (by decide), if_neg (by decide)]
    exact hs
  | str d l hr h =>
    rw [if_neg (by decide), if_neg (by decide), if_neg (by decide), if_neg (by decide), if_neg (by decide), if_neg (by decide), if_neg (by decide), if_neg (by decide)]
    exact hs
theorem sGoA_put {s : List UInt8} {d : Nat} : ∀ (l : List Fw) (a : Int) (p n : Nat) (acc : List Fd), (∀ f ∈ l, inR f.id ∧ kR f.k) → (∀ f ∈ l, VT d f.k f.x) → l.length < n → Rd s (fdB a l ++ [0]) p → ∃ r, sGoA d n (cu s p) a acc = some (r, cu s (p + (fdB a l ++ [0]).length))
  | l, a, p, 0, _, _, _, h, _ => absurd h (Nat.not_lt_zero _)
  | [], a, p, n + 1, acc, _, _, _, hr => by
    rw [sGoA, fld_stop hr, if_pos rfl]; exact ⟨_, rfl⟩
  | f :: l, a, p, n + 1, acc, h1, h2, hn, hr => by
    have e : fdB a (f :: l) ++ [0] = pfield a f.id (byte f.k) ++ (f.x ++ (fdB f.id l ++ [0])) := by
      show (pfield a f.id (byte f.k) ++ (f.x ++ fdB f.id l)) ++ [0] = _
      simp only [List.append_assoc]
    rw [e] at hr ⊢
    obtain ⟨r1, r2⟩ := hr.app
    obtain ⟨r2, r3⟩ := r2.app
    obtain ⟨i1, i2⟩ := h1 f List.mem_cons_self
    have i3 := i2
    unfold kR at i3
    rw [sGoA, fld_put i2 i1 r1]
    dsimp only
    rw [if_neg (by omega), valA_put (h2 f List.mem_cons_self) _ _ _ r2]
    obtain ⟨r, hr'⟩ := sGoA_put l f.id _ n (acc ++ [_]) (fun y hy => h1 y (List.mem_cons_of_mem _ hy)) (fun y hy => h2 y (List.mem_cons_of_mem _ hy)) (by simp at hn; omega) r3
    refine ⟨r, hr'.trans ?_⟩
    refine congrArg (fun q => some (r, cu s q)) ?_
    simp only [List.length_append]; omega
/-- a struct at the beginning of a text -/
theorem aRun_put {d : Nat} {x t : List UInt8} (h : VT (d + 1) 12 x) : aFine d (x ++ t) ∧ aAt d (x ++ t) = x.length ∧ 1 ≤ x.length := by
  cases h with
  | no _ _ h => unfold tru at h; omega
  | num _ _ _ h => omega
  | str _ l hr h =>
    have hlen := fdB_len l 0 hr
    obtain ⟨r, e⟩ := sGoA_put (s := (fdB 0 l ++ [0]) ++ t) (d := d) l 0 0 (((fdB 0 l ++ [0]) ++ t).length + 1) [] hr h (by rw [List.length_append, List.length_append]; omega) ⟨[], t, rfl, rfl⟩
    rw [Nat.zero_add] at e
    have e : aRun d ((fdB 0 l ++ [0]) ++ t) = some (r, cu ((fdB 0 l ++ [0]) ++ t) (fdB 0 l ++ [0]).length) := e
    refine ⟨⟨_, e, rfl⟩, ?_, by simp⟩
    unfold aAt
    rw [e]; rfl
end Go.Proofs.YtcgjkjabcdeagaaDoor
