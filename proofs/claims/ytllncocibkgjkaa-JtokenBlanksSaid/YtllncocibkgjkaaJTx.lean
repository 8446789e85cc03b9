/-
  All tokens of a text, and a token's bytes: the program's functions.
-/
import Derived.Test.YtllncocibkgjkaaJTw
import Derived.Test.YtllncocibkgjkaaPQuote
set_option linter.unusedSimpArgs false
set_option linter.unusedVariables false
set_option maxHeartbeats 4000000
namespace Go.Proofs.Ytllncocibkgjkaa
open Go Go.VG
set_option maxRecDepth 100000
abbrev vT (t : Tk) : V := .agg (eT t)
def allT (s : List UInt8) : List Tk × Int := allD (s.length + 1) (.new s) []
theorem new_okT (s : List UInt8) : (Cu.new s).ok := ⟨Nat.zero_le _, Nat.le_refl _⟩
theorem readDGo_lt (t : List UInt8) : ∀ (n i : Nat) (o : List UInt8), (readDGo t n i o).1 = 0 → i < (readDGo t n i o).2.1 ∧ (readDGo t n i o).2.1 ≤ t.length
  | 0, _, _, h => by rw [readDGo] at h; simp at h
  | n + 1, i, o, h => by
    rw [readDGo] at h ⊢
    by_cases a : t.length ≤ i
    · rw [if_pos a] at h; simp at h
    rw [if_neg a] at h ⊢
    by_cases b : (t.getD i 0).toNat = 34
    · rw [if_pos b]; exact ⟨by show i < i + 1; omega, by show i + 1 ≤ _; omega⟩
    rw [if_neg b] at h ⊢
    by_cases c : (partD t i).2.2 ≠ 0
    · rw [if_pos c] at h; exact absurd h c
    rw [if_neg c] at h ⊢
    have h1 := readDGo_lt t n (partD t i).2.1.toNat _ h
    have h2 := part_next t i (by omega)
    omega
theorem needD_lt (t : List UInt8) (i : Nat) (h : (needD t i).2 = 0) : i < (needD t i).1 := by
  revert h; unfold needD; repeat' split
  all_goals (intro h; first | (dsimp only; omega) | (exfalso; simp at h))
theorem numE_lt (t : List UInt8) (i : Nat) (hi : i ≤ t.length) (h : (numE t i).2 = 0) : i < (numE t i).1 := by
  have h1 := sgnD_ge t i 45 45 hi
  have w : (wholeE t i).2 = 0 → i < (wholeE t i).1 ∧ (wholeE t i).1 ≤ t.length := by
    unfold wholeE; split
    · rename_i q; have := (oneD_t.1 q).1; intro _; dsimp only; omega
    · intro h; have := needD_lt t _ h; have := needD_ge t _ h1.2; omega
  have b : (behindE t (wholeE t i)).2 = 0 → i < (behindE t (wholeE t i)).1 ∧ (behindE t (wholeE t i)).1 ≤ t.length := by
    generalize wholeE t i = x at *
    unfold behindE; split
    · rename_i q; intro h; have := (oneD_t.1 q.2).1; have := w q.1; have := needD_lt t _ h; have := needD_ge t (x.1 + 1) (by omega); omega
    · exact w
  revert h
  unfold numE
  generalize behindE t (wholeE t i) = x at *
  unfold powerE; split
  · rename_i q; intro h; have := b q.1; have := (oneD_t.1 q.2).1; have := sgnD_ge t (x.1 + 1) 43 45 (by omega); have := needD_lt t _ h; omega
  · exact fun h => (b h).1
/-- a token goes on in its text -/
theorem nextD_on {c : Cu} (hk : c.ok) (h : c.nextD.1.c = 0) : c.nextD.1.ok ∧ c.nextD.1.s = c.s ∧ c.nextD.1.e = c.e ∧ c.c = 0 ∧ c.p ≤ c.nextD.1.p ∧ (c.nextD.2.k ≠ 0 → c.p < c.nextD.1.p) := by
  have hl := txt_len hk
  unfold Cu.nextD at h ⊢
  by_cases h0 : c.c = 0
  · rw [if_neg (by omega)] at h ⊢
    have hr := runW_le blkB c.txt c.p
    have hp := hk.1
    have hd : Cu.ok { c with p := runW blkB c.txt c.p } := ⟨by show runW blkB c.txt c.p ≤ c.e; omega, hk.2⟩
    have hr1 : c.p ≤ ({ c with p := runW blkB c.txt c.p } : Cu).p := hr.1
    have e1 : ({ c with p := runW blkB c.txt c.p } : Cu).s = c.s := rfl
    have e2 : ({ c with p := runW blkB c.txt c.p } : Cu).e = c.e := rfl
    have e3 : ({ c with p := runW blkB c.txt c.p } : Cu).c = 0 := h0
    generalize ({ c with p := runW blkB c.txt c.p } : Cu) = d at *
    have hdl := txt_len hd
    have fl : ∀ k : Int, k ≠ 0 → (d.fail k).c ≠ 0 := fun k hk => by rw [fail_c0 _ e3]; exact hk
    rw [← e1, ← e2]
    unfold Cu.tokD at h ⊢
    by_cases a : d.p = d.e
    · rw [if_pos a]; exact ⟨hd, rfl, rfl, h0, hr1, fun k => absurd rfl k⟩
    rw [if_neg a] at h ⊢
    have hlt : d.p < d.e := by have := hd.1; omega
    have adv : ∀ n, d.p + n ≤ d.e → 0 < n → Cu.ok { d with p := d.p + n } ∧ c.p ≤ d.p + n ∧ c.p < d.p + n := fun n hn h0 => ⟨⟨hn, hd.2⟩, by omega, by omega⟩
    by_cases b : signB d.get = true
    · rw [if_pos b]; exact ⟨(adv 1 (by omega) (by omega)).1, rfl, rfl, h0, by show c.p ≤ d.p + 1; omega, fun _ => by show c.p < d.p + 1; omega⟩
    rw [if_neg b] at h ⊢
    by_cases g : d.get.toNat = 34
    · rw [if_pos g] at h ⊢
      unfold held Cu.readD at h ⊢
      rw [if_neg (by omega), if_neg a, if_neg (by omega)] at h ⊢
      by_cases z : (readDGo (d.s.take d.e) (d.e - d.p) (d.p + 1) []).1 = 0
      · rw [if_pos z]
        have := readDGo_lt _ _ _ _ z
        have hlen : (d.s.take d.e).length = d.e := hdl
        generalize readDGo (d.s.take d.e) (d.e - d.p) (d.p + 1) [] = R at *
        refine ⟨⟨by show R.2.1 ≤ d.e; omega, hd.2⟩, rfl, rfl, h0, by show c.p ≤ R.2.1; omega, fun _ => by show c.p < R.2.1; omega⟩
      · rw [if_neg z] at h; exact absurd h (fl _ z)
    rw [if_neg g] at h ⊢
    by_cases f : d.get.toNat = 45 ∨ digB d.get = true
    · rw [if_pos f] at h ⊢
      unfold held Cu.numD at h ⊢
      rw [if_neg (by omega)] at h ⊢
      by_cases z : (numE d.txt d.p).2 = 0
      · rw [if_neg (by omega)]
        have q1 := numE_lt d.txt d.p (by omega) z
        have q2 := numE_ge d.txt d.p (by omega)
        generalize numE d.txt d.p = R at *
        refine ⟨⟨by show R.1 ≤ d.e; omega, hd.2⟩, rfl, rfl, h0, by show c.p ≤ R.1; omega, fun _ => by show c.p < R.1; omega⟩
      · rw [if_pos z] at h; exact absurd h (fl _ z)
    rw [if_neg f] at h ⊢
    have hw : ∀ k, 0 < (spell k).length → (d.wordD k).1.c = 0 → (d.wordD k).1.ok ∧ (d.wordD k).1.s = d.s ∧ (d.wordD k).1.e = d.e ∧ c.c = 0 ∧ c.p ≤ (d.wordD k).1.p ∧ ((d.wordD k).2.k ≠ 0 → c.p < (d.wordD k).1.p) := fun k hsp h => by
      have hwe : ∀ (s : List UInt8) (i : Nat), wordE d s i = 0 → s = [] ∨ d.p + i + s.length ≤ d.e := by
        intro s
        induction s with
        | nil => intro i _; exact .inl rfl
        | cons b s ih =>
          intro i hi
          unfold wordE at hi
          split at hi
          · simp at hi
          · split at hi
            · simp at hi
            · right
              rcases ih (i + 1) hi with e | e
              · subst e; simp; omega
              · simp; omega
      unfold Cu.wordD at h ⊢
      by_cases z : wordE d (spell k) 0 = 0
      · rw [if_neg (by omega)]
        refine ⟨⟨?_, hd.2⟩, rfl, rfl, h0, by show c.p ≤ d.p + (spell k).length; omega, fun hk0 => ?_⟩
        · rcases hwe _ _ z with e | e
          · rw [e]; exact hd.1
          · show d.p + (spell k).length ≤ d.e; omega
        · show c.p < d.p + (spell k).length; omega
      · rw [if_pos z] at h; exact absurd h (fl _ z)
    by_cases w : d.get.toNat = 116 ∨ d.get.toNat = 102
    · rw [if_pos w] at h ⊢
      refine hw _ ?_ h
      unfold spell
      rcases w with w | w <;> simp [w]
    rw [if_neg w] at h ⊢
    by_cases v : d.get.toNat = 110
    · rw [if_pos v] at h ⊢; exact hw _ (by decide) h
    rw [if_neg v] at h; exact absurd h (fl 3 (by decide))
  · rw [if_pos h0] at h; exact absurd h h0
theorem f_jtAll_1 (s : List UInt8) (hp : s.length ≤ 10000000) : OK 11 ([.str s]) ([]) (.tuple [.buf 0, .int .i64 (allT s).2]) (some [.buf 2 0 ((allT s).1.map vT)]) := by
  refine funOK_of_vc (C := cx [(17, sm_cNew), (18, sm_jtNext), (21, sm_cErr)]) (good ⟨k_cNew, k_jtNext, k_cErr, trivial⟩) (fn := Try.f11) rfl rfl rfl rfl fun hw hs => ?_
  repeat' (
      conv => whnf
      first
      | refine req_i ?_ ?_
      | refine when_i ?_ ?_
      | refine brn_not ?_
      | refine brn_dec (fun h => ?_) (fun h => ?_)
      | refine brn_int (fun h => ?_) (fun h => ?_)
      | refine brn_intne (fun h => ?_) (fun h => ?_)
      | refine brn_str (fun h => ?_) (fun h => ?_)
      | refine brn_i (fun h => ?_) (fun h => ?_)
      | with_reducible refine IdxK.mk _ rfl ?_
      | with_reducible refine idx_blI ?_ (fun hc => ?_)
      | with_reducible refine idx_bl ?_ (fun hc => ?_)
      | with_reducible refine idx_strI ?_ (fun hc => ?_)
      | with_reducible refine idx_str ?_ (fun hc => ?_)
      | with_reducible refine idx_mapDI ?_ ?_
      | with_reducible refine idx_mapD ?_ ?_
      | with_reducible refine idx_at ?_ (fun b hb => ?_)
      | refine ex_bl ?_
      | refine ex_b1 ?_ ?_
      | refine ex_b2 ?_ ?_ ?_
      | refine ex_b3 ?_ ?_ ?_ ?_
      | refine ex_b4 ?_ ?_ ?_ ?_ ?_
      | refine optK_setL ?_ ?_
      | refine optK_takeL ?_ ?_
      | with_reducible refine forceDs_i ?_
      )
  all_goals try (conv => whnf)
  all_goals try (refine Side.mk ?_; try dsimp only)
  all_goals (try simp only [Cu_eta] at *)
  all_goals first
    | (show LoopP _ _ _ _; skip)
    | (show GotoP _ _ _ _ _; skip)
    | (show EndP _ _ _ _ _ _; skip)
    | (show ∃ _, _; skip)
    | (first
          | trivial
          | omega
          | (simp (discharger := omega) only [wu8, wu16, wu32, wu64, wi32, wi64, Int.tdiv_eq_ediv_of_nonneg, Int.tmod_eq_emod_of_nonneg]; omega)
          | (simp only [List.length_append, List.length_cons, List.length_nil, bl_length, List.length_take, List.length_drop]; omega)
          | (simp (discharger := omega) [-List.getD_eq_getElem?_getD, wu8, wu16, wu32, wu64, wi32, wi64, Int.tdiv_eq_ediv_of_nonneg, Int.tmod_eq_emod_of_nonneg]; done)
          | (simp (discharger := omega) [-List.getD_eq_getElem?_getD, wu8, wu16, wu32, wu64, wi32, wi64, Int.tdiv_eq_ediv_of_nonneg, Int.tmod_eq_emod_of_nonneg]; omega))
    | skip
  refine LoopP.mk (Nat × Cu × List Tk) (fun | (n, d, l) => d.ok ∧ d.s = s ∧ d.c = 0 ∧ d.e - d.p < n ∧ l.length ≤ d.p ∧ allD n d l = allT s) (fun | (n, d, l) => ⟨24, [(4, .ptr 0 0), (5, .buf 1)], [.cells (eC d), .buf 2 0 (l.map vT)], [1]⟩) (fun x => x.1) [.tm 5 2] (s.length + 1, .new s, []) ⟨new_okT s, rfl, rfl, by show s.length - 0 < s.length + 1; omega, by simp, rfl⟩ ?_ (fun ⟨n, d, l⟩ ⟨hd, hds, hd0, hn, hl, he⟩ _ _ => ?_)
  · refine Go.VG.Sub.mk rfl ?_ ?_ ?_ ?_ <;> (repeat' (first | trivial | rfl | exact scopedL_bl _ _ | refine And.intro ?_ ?_ | refine congrArg V.str ?_ | refine congrArg (V.int _) ?_ | refine congrArg V.bool ?_ | refine congrArg (O.buf _ _) ?_ | refine congrArg O.cells ?_ | refine congrArg (V.list _ _) ?_ | refine congrArg V.agg ?_ | refine congrArg V.tuple ?_ | refine cons_eq ?_ ?_))
  obtain ⟨n, rfl⟩ : ∃ m, n = m + 1 := ⟨n - 1, by omega⟩
  rw [allD] at he
  obtain ⟨x1, x2, x3⟩ := next_eq hd
  have on := fun h => nextD_on hd h
  have hsl : d.s.length ≤ 10000000 := by rw [hds]; exact hp
  have hk : d.next.2.k.toNat < 256 := d.next.2.k.toNat_lt
  have hp1 := hd.1
  have hp2 := hd.2
  repeat' (
      conv => whnf
      first
      | refine req_i ?_ ?_
      | refine when_i ?_ ?_
      | refine brn_not ?_
      | refine brn_dec (fun h => ?_) (fun h => ?_)
      | refine brn_int (fun h => ?_) (fun h => ?_)
      | refine brn_intne (fun h => ?_) (fun h => ?_)
      | refine brn_str (fun h => ?_) (fun h => ?_)
      | refine brn_i (fun h => ?_) (fun h => ?_)
      | with_reducible refine IdxK.mk _ rfl ?_
      | with_reducible refine idx_blI ?_ (fun hc => ?_)
      | with_reducible refine idx_bl ?_ (fun hc => ?_)
      | with_reducible refine idx_strI ?_ (fun hc => ?_)
      | with_reducible refine idx_str ?_ (fun hc => ?_)
      | with_reducible refine idx_mapDI ?_ ?_
      | with_reducible refine idx_mapD ?_ ?_
      | with_reducible refine idx_at ?_ (fun b hb => ?_)
      | refine ex_bl ?_
      | refine ex_b1 ?_ ?_
      | refine ex_b2 ?_ ?_ ?_
      | refine ex_b3 ?_ ?_ ?_ ?_
      | refine ex_b4 ?_ ?_ ?_ ?_ ?_
      | refine optK_setL ?_ ?_
      | refine optK_takeL ?_ ?_
      | with_reducible refine forceDs_i ?_
      )
  all_goals try (conv => whnf)
  all_goals try (refine Side.mk ?_; try dsimp only)
  all_goals (try simp only [Cu_eta] at *)
  all_goals first
    | (show LoopP _ _ _ _; skip)
    | (show GotoP _ _ _ _ _; skip)
    | (show EndP _ _ _ _ _ _; skip)
    | (show ∃ _, _; skip)
    | (first
          | trivial
          | omega
          | (simp (discharger := omega) only [wu8, wu16, wu32, wu64, wi32, wi64, Int.tdiv_eq_ediv_of_nonneg, Int.tmod_eq_emod_of_nonneg]; omega)
          | (simp only [List.length_append, List.length_cons, List.length_nil, bl_length, List.length_take, List.length_drop]; omega)
          | (simp (discharger := omega) [-List.getD_eq_getElem?_getD, wu8, wu16, wu32, wu64, wi32, wi64, Int.tdiv_eq_ediv_of_nonneg, Int.tmod_eq_emod_of_nonneg]; done)
          | (simp (discharger := omega) [-List.getD_eq_getElem?_getD, wu8, wu16, wu32, wu64, wi32, wi64, Int.tdiv_eq_ediv_of_nonneg, Int.tmod_eq_emod_of_nonneg]; omega))
    | skip
  · have z : d.nextD.1.c = 0 := by rw [← x2]; assumption
    have k0 : d.nextD.2.k = 0 := by rw [← x1]; exact UInt8.toNat_inj.1 (by show _ = 0; omega)
    rw [if_neg (by omega), if_pos k0] at he
    rw [← he]
    refine EndP.mk [.swap 0 1] ?_ <;> (repeat' (first | trivial | rfl | exact scopedL_bl _ _ | refine And.intro ?_ ?_ | refine congrArg V.str ?_ | refine congrArg (V.int _) ?_ | refine congrArg V.bool ?_ | refine congrArg (O.buf _ _) ?_ | refine congrArg O.cells ?_ | refine congrArg (V.list _ _) ?_ | refine congrArg V.agg ?_ | refine congrArg V.tuple ?_ | refine cons_eq ?_ ?_))
  · have z : d.nextD.1.c = 0 := by rw [← x2]; assumption
    have k0 : d.nextD.2.k ≠ 0 := fun e => by
      rw [← x1] at e
      exact absurd (show ((d.next.2.k.toNat : Nat) : Int) = 0 by rw [e]; rfl) (by assumption)
    obtain ⟨o1, o2, o3, o4, o5, o6⟩ := on z
    have o6 := o6 k0
    have o7 := o1.1
    rw [if_neg (by omega), if_neg k0] at he
    refine ⟨[], (n, d.nextD.1, l ++ [d.nextD.2]), ⟨o1, o2.trans hds, z, by show d.nextD.1.e - d.nextD.1.p < n; omega, by show (l ++ [d.nextD.2]).length ≤ d.nextD.1.p; rw [List.length_append, List.length_singleton]; omega, he⟩, ?_, by show n < n + 1; omega⟩
    rw [← x3 z, ← x1]
    refine Go.VG.Sub.mk rfl ?_ ?_ ?_ ?_ <;> (repeat' (first | trivial | rfl | exact scopedL_bl _ _ | refine And.intro ?_ ?_ | refine congrArg V.str ?_ | refine congrArg (V.int _) ?_ | refine congrArg V.bool ?_ | refine congrArg (O.buf _ _) ?_ | refine congrArg O.cells ?_ | refine congrArg (V.list _ _) ?_ | refine congrArg V.agg ?_ | refine congrArg V.tuple ?_ | refine cons_eq ?_ ?_))
    simp
  · have z : d.nextD.1.c ≠ 0 := by rw [← x2]; assumption
    rw [if_pos z] at he
    rw [← he, ← x2]
    refine EndP.mk [.tm 2 2, .swap 0 3] ?_ <;> (repeat' (first | trivial | rfl | exact scopedL_bl _ _ | refine And.intro ?_ ?_ | refine congrArg V.str ?_ | refine congrArg (V.int _) ?_ | refine congrArg V.bool ?_ | refine congrArg (O.buf _ _) ?_ | refine congrArg O.cells ?_ | refine congrArg (V.list _ _) ?_ | refine congrArg V.agg ?_ | refine congrArg V.tuple ?_ | refine cons_eq ?_ ?_))
def sm_jtAll : Sm := fun args σ => match args, σ with
  | [.str s], [] => some (s.length ≤ 10000000, .tuple [.buf 0, .int .i64 (allT s).2], some [.buf 2 0 ((allT s).1.map vT)])
  | _, _ => none
theorem k_jtAll : SOK 11 sm_jtAll := by
  intro args sg pre x r he hp
  unfold sm_jtAll at he
  split at he <;> cases he
  · exact f_jtAll_1 (hp := hp) ..
def textT (t : Tk) : List UInt8 := if t.k.toNat = 115 then quote t.t else if t.k.toNat = 110 then t.t else if signB t.k = true then [t.k] else spell t.k
theorem textT_len (t : Tk) : (textT t).length ≤ 6 * t.t.length + 5 := by
  have := quote_len t.t
  unfold textT spell; repeat' split
  all_goals first | omega | simp
theorem copy_eqT (l : List V) : List.take (List.replicate (l.length : Int).toNat (V.int .u8 0)).length l ++ List.drop l.length (List.replicate (l.length : Int).toNat (V.int .u8 0)) = l := by simp
theorem f_jtPut_1 (c : Bool) (l : List V) (k : UInt8) (t : List UInt8) (hp : l.length ≤ 100000000 ∧ t.length ≤ 10000000) : OK 12 ([.list c 1 l, .agg [bv k, .str t]]) ([]) (.buf 0) (some [.buf 1 0 (l ++ bl (textT ⟨k, t⟩))]) := by
  refine funOK_of_vc (C := cx [(36, sm_jstringPut), (37, sm_jtSpelled), (38, sm_jtOneOf)]) (good ⟨k_jstringPut, k_jtSpelled, k_jtOneOf, trivial⟩) (fn := Try.f12) rfl rfl rfl rfl fun hw hs => ?_
  have hk : k.toNat < 256 := k.toNat_lt
  have hkk : byte k.toNat = k := byte_of _
  have hq := quote_len t
  have hsp : (spell k).length ≤ 5 := by
    unfold spell; repeat' split
    all_goals simp
  repeat' (
      conv => whnf
      first
      | refine req_i ?_ ?_
      | refine when_i ?_ ?_
      | refine brn_not ?_
      | refine brn_dec (fun h => ?_) (fun h => ?_)
      | refine brn_int (fun h => ?_) (fun h => ?_)
      | refine brn_intne (fun h => ?_) (fun h => ?_)
      | refine brn_str (fun h => ?_) (fun h => ?_)
      | refine brn_i (fun h => ?_) (fun h => ?_)
      | with_reducible refine IdxK.mk _ rfl ?_
      | with_reducible refine idx_blI ?_ (fun hc => ?_)
      | with_reducible refine idx_bl ?_ (fun hc => ?_)
      | with_reducible refine idx_strI ?_ (fun hc => ?_)
      | with_reducible refine idx_str ?_ (fun hc => ?_)
      | with_reducible refine idx_mapDI ?_ ?_
      | with_reducible refine idx_mapD ?_ ?_
      | with_reducible refine idx_at ?_ (fun b hb => ?_)
      | refine ex_bl ?_
      | refine ex_b1 ?_ ?_
      | refine ex_b2 ?_ ?_ ?_
      | refine ex_b3 ?_ ?_ ?_ ?_
      | refine ex_b4 ?_ ?_ ?_ ?_ ?_
      | refine optK_setL ?_ ?_
      | refine optK_takeL ?_ ?_
      | with_reducible refine forceDs_i ?_
      )
  all_goals try (conv => whnf)
  all_goals try (refine Side.mk ?_; try dsimp only)
  all_goals (try simp only [copy_eqT] at *)
  all_goals (try simp only [Cu_eta] at *)
  all_goals first
    | (show LoopP _ _ _ _; skip)
    | (show GotoP _ _ _ _ _; skip)
    | (show EndP _ _ _ _ _ _; skip)
    | (show ∃ _, _; skip)
    | (first
          | trivial
          | omega
          | (simp (discharger := omega) only [wu8, wu16, wu32, wu64, wi32, wi64, Int.tdiv_eq_ediv_of_nonneg, Int.tmod_eq_emod_of_nonneg]; omega)
          | (simp only [List.length_append, List.length_cons, List.length_nil, bl_length, List.length_take, List.length_drop]; omega)
          | (simp (discharger := omega) [-List.getD_eq_getElem?_getD, wu8, wu16, wu32, wu64, wi32, wi64, Int.tdiv_eq_ediv_of_nonneg, Int.tmod_eq_emod_of_nonneg]; done)
          | (simp (discharger := omega) [-List.getD_eq_getElem?_getD, wu8, wu16, wu32, wu64, wi32, wi64, Int.tdiv_eq_ediv_of_nonneg, Int.tmod_eq_emod_of_nonneg]; omega))
    | skip
  all_goals (try simp only [hkk] at *)
  all_goals first
    | (refine ⟨by omega, ?_⟩; omega)
    | exact ⟨by omega, trivial⟩
    | (rw [bl_length]; omega)
    | skip
  all_goals
    have sT : signB k = true ↔ (k.toNat = 123 ∨ k.toNat = 125 ∨ k.toNat = 91 ∨ k.toNat = 93 ∨ k.toNat = 58 ∨ k.toNat = 44) := decide_eq_true_iff
    rw [show textT ⟨k, t⟩ = if k.toNat = 115 then quote t else if k.toNat = 110 then t else if signB k = true then [k] else spell k from rfl]
    repeat (first | rw [if_pos (by rw [sT]; omega)] | rw [if_neg (by rw [sT]; omega)] | rw [if_pos (by omega)] | rw [if_neg (by omega)])
    refine EndP.mk [.swap 0 1] ?_ <;> (repeat' (first | trivial | rfl | exact scopedL_bl _ _ | refine And.intro ?_ ?_ | refine congrArg V.str ?_ | refine congrArg (V.int _) ?_ | refine congrArg V.bool ?_ | refine congrArg (O.buf _ _) ?_ | refine congrArg O.cells ?_ | refine congrArg (V.list _ _) ?_ | refine congrArg V.agg ?_ | refine congrArg V.tuple ?_ | refine cons_eq ?_ ?_))
  all_goals first
    | rfl
    | (unfold spell
       rw [if_neg (by omega), if_neg (by omega), if_neg (by omega)]
       simp [bl])
    | skip
theorem f_jtPut_2 (z : Nat) (k : UInt8) (t : List UInt8) (hp : t.length ≤ 10000000) : OK 12 ([.list true z [], .agg [bv k, .str t]]) ([]) (.buf 0) (some [.buf 1 0 (bl (textT ⟨k, t⟩))]) := by
  exact (f_jtPut_1 true [] k t ⟨by simp, hp⟩).args (WkL.cons (Wk.nil (.inl rfl)) (WkL.refl _))
theorem f_jtPut_3 (l : List V) (k : UInt8) (t : List UInt8) (hp : l.length ≤ 100000000 ∧ t.length ≤ 10000000) : OK 12 ([.buf 0, .agg [bv k, .str t]]) ([.buf 1 0 l]) (.buf 0) (some [.buf 1 0 (l ++ bl (textT ⟨k, t⟩))]) := by
  refine funOK_of_vc (C := cx [(36, sm_jstringPut), (37, sm_jtSpelled), (38, sm_jtOneOf)]) (good ⟨k_jstringPut, k_jtSpelled, k_jtOneOf, trivial⟩) (fn := Try.f12) rfl rfl rfl rfl fun hw hs => ?_
  have hk : k.toNat < 256 := k.toNat_lt
  have hkk : byte k.toNat = k := byte_of _
  have hq := quote_len t
  have hsp : (spell k).length ≤ 5 := by
    unfold spell; repeat' split
    all_goals simp
  repeat' (
      conv => whnf
      first
      | refine req_i ?_ ?_
      | refine when_i ?_ ?_
      | refine brn_not ?_
      | refine brn_dec (fun h => ?_) (fun h => ?_)
      | refine brn_int (fun h => ?_) (fun h => ?_)
      | refine brn_intne (fun h => ?_) (fun h => ?_)
      | refine brn_str (fun h => ?_) (fun h => ?_)
      | refine brn_i (fun h => ?_) (fun h => ?_)
      | with_reducible refine IdxK.mk _ rfl ?_
      | with_reducible refine idx_blI ?_ (fun hc => ?_)
      | with_reducible refine idx_bl ?_ (fun hc => ?_)
      | with_reducible refine idx_strI ?_ (fun hc => ?_)
      | with_reducible refine idx_str ?_ (fun hc => ?_)
      | with_reducible refine idx_mapDI ?_ ?_
      | with_reducible refine idx_mapD ?_ ?_
      | with_reducible refine idx_at ?_ (fun b hb => ?_)
      | refine ex_bl ?_
      | refine ex_b1 ?_ ?_
      | refine ex_b2 ?_ ?_ ?_
      | refine ex_b3 ?_ ?_ ?_ ?_
      | refine ex_b4 ?_ ?_ ?_ ?_ ?_
      | refine optK_setL ?_ ?_
      | refine optK_takeL ?_ ?_
      | with_reducible refine forceDs_i ?_
      )
  all_goals try (conv => whnf)
  all_goals try (refine Side.mk ?_; try dsimp only)
  all_goals (try simp only [copy_eqT] at *)
  all_goals (try simp only [Cu_eta] at *)
  all_goals first
    | (show LoopP _ _ _ _; skip)
    | (show GotoP _ _ _ _ _; skip)
    | (show EndP _ _ _ _ _ _; skip)
    | (show ∃ _, _; skip)
    | (first
          | trivial
          | omega
          | (simp (discharger := omega) only [wu8, wu16, wu32, wu64, wi32, wi64, Int.tdiv_eq_ediv_of_nonneg, Int.tmod_eq_emod_of_nonneg]; omega)
          | (simp only [List.length_append, List.length_cons, List.length_nil, bl_length, List.length_take, List.length_drop]; omega)
          | (simp (discharger := omega) [-List.getD_eq_getElem?_getD, wu8, wu16, wu32, wu64, wi32, wi64, Int.tdiv_eq_ediv_of_nonneg, Int.tmod_eq_emod_of_nonneg]; done)
          | (simp (discharger := omega) [-List.getD_eq_getElem?_getD, wu8, wu16, wu32, wu64, wi32, wi64, Int.tdiv_eq_ediv_of_nonneg, Int.tmod_eq_emod_of_nonneg]; omega))
    | skip
  all_goals (try simp only [hkk] at *)
  all_goals first
    | (refine ⟨by omega, ?_⟩; omega)
    | exact ⟨by omega, trivial⟩
    | (rw [bl_length]; omega)
    | skip
  all_goals
    have sT : signB k = true ↔ (k.toNat = 123 ∨ k.toNat = 125 ∨ k.toNat = 91 ∨ k.toNat = 93 ∨ k.toNat = 58 ∨ k.toNat = 44) := decide_eq_true_iff
    rw [show textT ⟨k, t⟩ = if k.toNat = 115 then quote t else if k.toNat = 110 then t else if signB k = true then [k] else spell k from rfl]
    repeat (first | rw [if_pos (by rw [sT]; omega)] | rw [if_neg (by rw [sT]; omega)] | rw [if_pos (by omega)] | rw [if_neg (by omega)])
    refine EndP.mk [.swap 0 2] ?_ <;> (repeat' (first | trivial | rfl | exact scopedL_bl _ _ | refine And.intro ?_ ?_ | refine congrArg V.str ?_ | refine congrArg (V.int _) ?_ | refine congrArg V.bool ?_ | refine congrArg (O.buf _ _) ?_ | refine congrArg O.cells ?_ | refine congrArg (V.list _ _) ?_ | refine congrArg V.agg ?_ | refine congrArg V.tuple ?_ | refine cons_eq ?_ ?_))
  all_goals first
    | rfl
    | (unfold spell
       rw [if_neg (by omega), if_neg (by omega), if_neg (by omega)]
       simp [bl])
    | skip
def sm_jtPut : Sm := fun args σ => match args, σ with
  | [.list c 1 l, .agg [.int .u8 n_k, .str t]], [] => some ((0 ≤ n_k ∧ n_k ≤ 255) ∧ (l.length ≤ 100000000 ∧ t.length ≤ 10000000), .buf 0, some [.buf 1 0 (l ++ bl (textT ⟨(byte n_k), t⟩))])
  | [.list true z [], .agg [.int .u8 n_k, .str t]], [] => some ((0 ≤ n_k ∧ n_k ≤ 255) ∧ (t.length ≤ 10000000), .buf 0, some [.buf 1 0 (bl (textT ⟨(byte n_k), t⟩))])
  | [.buf 0, .agg [.int .u8 n_k, .str t]], [.buf 1 0 l] => some ((0 ≤ n_k ∧ n_k ≤ 255) ∧ (l.length ≤ 100000000 ∧ t.length ≤ 10000000), .buf 0, some [.buf 1 0 (l ++ bl (textT ⟨(byte n_k), t⟩))])
  | _, _ => none
theorem k_jtPut : SOK 12 sm_jtPut := by
  intro args sg pre x r he hp
  unfold sm_jtPut at he
  split at he <;> cases he
  · rw [viewB (hp).1]; exact f_jtPut_1 (hp := hp.2) ..
  · rw [viewB (hp).1]; exact f_jtPut_2 (hp := hp.2) ..
  · rw [viewB (hp).1]; exact f_jtPut_3 (hp := hp.2) ..
end Go.Proofs.Ytllncocibkgjkaa
