/-
  All tokens of a text, and a token's bytes: the program's functions.
-/
import Derived.Test.YtllncocibkgjkaaJTw
import Derived.Test.YtllncocibkgjkaaPQuote
set_option linter.unusedSimpArgs false
set_option linter.unusedVariables false
set_option maxHeartbeats 4000000
namespace Go.Proofs.Ytllncocibkgjkaa
open Go Go.VG
set_option maxRecDepth 100000
abbrev vT (t : Tk) : V := .agg (eT t)
def allT (s : List UInt8) : List Tk × Int := allD (s.length + 1) (.new s) []
theorem azl (s : List UInt8) : (Cu.new s).ok := ⟨Nat.zero_le _, Nat.le_refl _⟩
theorem ast (t : List UInt8) : ∀ (n i : Nat) (o : List UInt8), (ab4 t n i o).1 = 0 → i < (ab4 t n i o).2.1 ∧ (ab4 t n i o).2.1 ≤ t.length
  | 0, _, _, h => by rw [ab4] at h; simp at h
  | n + 1, i, o, h => by
    rw [ab4] at h ⊢
    by_cases a : t.length ≤ i
    · rw [if_pos a] at h; simp at h
    rw [if_neg a] at h ⊢
    by_cases b : (t.getD i 0).toNat = 34
    · rw [if_pos b]; exact ⟨by show i < i + 1; omega, by show i + 1 ≤ _; omega⟩
    rw [if_neg b] at h ⊢
    by_cases c : (ad1 t i).2.2 ≠ 0
    · rw [if_pos c] at h; exact absurd h c
    rw [if_neg c] at h ⊢
    have h1 := ast t n (ad1 t i).2.1.toNat _ h
    have h2 := axa t i (by omega)
    omega
theorem au7 (t : List UInt8) (i : Nat) (h : (agv t i).2 = 0) : i < (agv t i).1 := by
  revert h; unfold agv; repeat' split
  all_goals (intro h; first | (dsimp only; omega) | (exfalso; simp at h))
theorem be7 (t : List UInt8) (i : Nat) (hi : i ≤ t.length) (h : (aob t i).2 = 0) : i < (aob t i).1 := by
  have h1 := auk t i 45 45 hi
  have w : (abe t i).2 = 0 → i < (abe t i).1 ∧ (abe t i).1 ≤ t.length := by
    unfold abe; split
    · rename_i q; have := (ai8.1 q).1; intro _; dsimp only; omega
    · intro h; have := au7 t _ h; have := ajk t _ h1.2; omega
  have b : (ac6 t (abe t i)).2 = 0 → i < (ac6 t (abe t i)).1 ∧ (ac6 t (abe t i)).1 ≤ t.length := by
    generalize abe t i = x at *
    unfold ac6; split
    · rename_i q; intro h; have := (ai8.1 q.2).1; have := w q.1; have := au7 t _ h; have := ajk t (x.1 + 1) (by omega); omega
    · exact w
  revert h
  unfold aob
  generalize ac6 t (abe t i) = x at *
  unfold aq4; split
  · rename_i q; intro h; have := b q.1; have := (ai8.1 q.2).1; have := auk t (x.1 + 1) 43 45 (by omega); have := au7 t _ h; omega
  · exact fun h => (b h).1
theorem ali {c : Cu} (hk : c.ok) (h : c.aan.1.c = 0) : c.aan.1.ok ∧ c.aan.1.s = c.s ∧ c.aan.1.e = c.e ∧ c.c = 0 ∧ c.p ≤ c.aan.1.p ∧ (c.aan.2.k ≠ 0 → c.p < c.aan.1.p) := by
  have hl := aci hk
  unfold Cu.aan at h ⊢
  by_cases h0 : c.c = 0
  · rw [if_neg (by omega)] at h ⊢
    have hr := azu anr c.txt c.p
    have hp := hk.1
    have hd : Cu.ok { c with p := an4 anr c.txt c.p } := ⟨by show an4 anr c.txt c.p ≤ c.e; omega, hk.2⟩
    have hr1 : c.p ≤ ({ c with p := an4 anr c.txt c.p } : Cu).p := hr.1
    have e1 : ({ c with p := an4 anr c.txt c.p } : Cu).s = c.s := rfl
    have e2 : ({ c with p := an4 anr c.txt c.p } : Cu).e = c.e := rfl
    have e3 : ({ c with p := an4 anr c.txt c.p } : Cu).c = 0 := h0
    generalize ({ c with p := an4 anr c.txt c.p } : Cu) = d at *
    have hdl := aci hd
    have fl : ∀ k : Int, k ≠ 0 → (d.fail k).c ≠ 0 := fun k hk => by rw [ads _ e3]; exact hk
    rw [← e1, ← e2]
    unfold Cu.a1z at h ⊢
    by_cases a : d.p = d.e
    · rw [if_pos a]; exact ⟨hd, rfl, rfl, h0, hr1, fun k => absurd rfl k⟩
    rw [if_neg a] at h ⊢
    have hlt : d.p < d.e := by have := hd.1; omega
    have adv : ∀ n, d.p + n ≤ d.e → 0 < n → Cu.ok { d with p := d.p + n } ∧ c.p ≤ d.p + n ∧ c.p < d.p + n := fun n hn h0 => ⟨⟨hn, hd.2⟩, by omega, by omega⟩
    by_cases b : ach d.get = true
    · rw [if_pos b]; exact ⟨(adv 1 (by omega) (by omega)).1, rfl, rfl, h0, by show c.p ≤ d.p + 1; omega, fun _ => by show c.p < d.p + 1; omega⟩
    rw [if_neg b] at h ⊢
    by_cases g : d.get.toNat = 34
    · rw [if_pos g] at h ⊢
      unfold held Cu.aiy at h ⊢
      rw [if_neg (by omega), if_neg a, if_neg (by omega)] at h ⊢
      by_cases z : (ab4 (d.s.take d.e) (d.e - d.p) (d.p + 1) []).1 = 0
      · rw [if_pos z]
        have := ast _ _ _ _ z
        have hlen : (d.s.take d.e).length = d.e := hdl
        generalize ab4 (d.s.take d.e) (d.e - d.p) (d.p + 1) [] = R at *
        refine ⟨⟨by show R.2.1 ≤ d.e; omega, hd.2⟩, rfl, rfl, h0, by show c.p ≤ R.2.1; omega, fun _ => by show c.p < R.2.1; omega⟩
      · rw [if_neg z] at h; exact absurd h (fl _ z)
    rw [if_neg g] at h ⊢
    by_cases f : d.get.toNat = 45 ∨ anu d.get = true
    · rw [if_pos f] at h ⊢
      unfold held Cu.a44 at h ⊢
      rw [if_neg (by omega)] at h ⊢
      by_cases z : (aob d.txt d.p).2 = 0
      · rw [if_neg (by omega)]
        have q1 := be7 d.txt d.p (by omega) z
        have q2 := a7u d.txt d.p (by omega)
        generalize aob d.txt d.p = R at *
        refine ⟨⟨by show R.1 ≤ d.e; omega, hd.2⟩, rfl, rfl, h0, by show c.p ≤ R.1; omega, fun _ => by show c.p < R.1; omega⟩
      · rw [if_pos z] at h; exact absurd h (fl _ z)
    rw [if_neg f] at h ⊢
    have hw : ∀ k, 0 < (spell k).length → (d.afk k).1.c = 0 → (d.afk k).1.ok ∧ (d.afk k).1.s = d.s ∧ (d.afk k).1.e = d.e ∧ c.c = 0 ∧ c.p ≤ (d.afk k).1.p ∧ ((d.afk k).2.k ≠ 0 → c.p < (d.afk k).1.p) := fun k hsp h => by
      have hwe : ∀ (s : List UInt8) (i : Nat), af4 d s i = 0 → s = [] ∨ d.p + i + s.length ≤ d.e := by
        intro s
        induction s with
        | nil => intro i _; exact .inl rfl
        | cons b s ih =>
          intro i hi
          unfold af4 at hi
          split at hi
          · simp at hi
          · split at hi
            · simp at hi
            · right
              rcases ih (i + 1) hi with e | e
              · subst e; simp; omega
              · simp; omega
      unfold Cu.afk at h ⊢
      by_cases z : af4 d (spell k) 0 = 0
      · rw [if_neg (by omega)]
        refine ⟨⟨?_, hd.2⟩, rfl, rfl, h0, by show c.p ≤ d.p + (spell k).length; omega, fun hk0 => ?_⟩
        · rcases hwe _ _ z with e | e
          · rw [e]; exact hd.1
          · show d.p + (spell k).length ≤ d.e; omega
        · show c.p < d.p + (spell k).length; omega
      · rw [if_pos z] at h; exact absurd h (fl _ z)
    by_cases w : d.get.toNat = 116 ∨ d.get.toNat = 102
    · rw [if_pos w] at h ⊢
      refine hw _ ?_ h
      unfold spell
      rcases w with w | w <;> simp [w]
    rw [if_neg w] at h ⊢
    by_cases v : d.get.toNat = 110
    · rw [if_pos v] at h ⊢; exact hw _ (by decide) h
    rw [if_neg v] at h; exact absurd h (fl 3 (by decide))
  · rw [if_pos h0] at h; exact absurd h h0
theorem f_jtAll_1 (s : List UInt8) (hp : s.length ≤ 10000000) : OK 11 ([.str s]) ([]) (.tuple [.buf 0, .int .i64 (allT s).2]) (some [.buf 2 0 ((allT s).1.map vT)]) := by
  refine aa0 (C := cx [(17, aun), (18, ag8), (21, af2)]) (abh ⟨bcd, alb, ak2, trivial⟩) (fn := Try.f11) rfl rfl rfl rfl fun hw hs => ?_
  repeat' ((conv => whnf); first | with_reducible (first | refine go1 (fun j q h => ?_) fun h => ?_ | refine go2 ⟨rfl, rfl⟩ (fun h => ?_) fun j h => ?_ | refine go2 ?_ (fun h => ?_) fun j h => ?_ | refine goQ ?_ (fun h => ?_) fun h => ?_) | refine go3 ?_ ?_ | refine go4 ?_ ?_ | refine go5 ?_ | ((first | refine go6 ?_ ?_ | refine go7 ?_ ?_ | refine go8 ?_ ?_ | refine go9 ?_ ?_ | refine goA ?_ ?_) <;> intro h) | with_reducible (first | refine aai.mk _ rfl ?_ | refine goB ?_ fun hc => ?_ | refine goC ?_ fun hc => ?_ | refine goD ?_ fun hc => ?_ | refine goE ?_ fun hc => ?_ | refine goF ?_ ?_ | refine goG ?_ ?_ | refine goH ?_ fun b hb => ?_) | refine goI ?_ | refine goJ ?_ ?_ | refine goK ?_ ?_ ?_ | refine goL ?_ ?_ ?_ ?_ | refine goM ?_ ?_ ?_ ?_ ?_ | refine goN ?_ ?_ | refine goO ?_ ?_ | with_reducible refine goP ?_)
  all_goals try conv => whnf
  all_goals try (refine aac.mk ?_; try dsimp only)
  all_goals (try simp only [aa3] at *)
  all_goals first
    | (refine stay ?_)
    | (first | trivial | omega | (simp (discharger := omega) only [wR]; omega) | (simp only [lnS]; omega) | (simp (discharger := omega) [-List.getD_eq_getElem?_getD, wR] <;> omega)) | skip
  refine abt.mk (Nat × Cu × List Tk) (fun | (n, d, l) => d.ok ∧ d.s = s ∧ d.c = 0 ∧ d.e - d.p < n ∧ l.length ≤ d.p ∧ allD n d l = allT s) (fun | (n, d, l) => ⟨24, [(4, .ptr 0 0), (5, .buf 1)], [.cells (eC d), .buf 2 0 (l.map vT)], [1]⟩) (fun x => x.1) [.tm 5 2] (s.length + 1, .new s, []) ⟨azl s, rfl, rfl, by show s.length - 0 < s.length + 1; omega, by simp, rfl⟩ ?_ (fun ⟨n, d, l⟩ ⟨hd, hds, hd0, hn, hl, he⟩ _ _ => ?_)
  · refine Go.VG.Sub.mk rfl ?_ ?_ ?_ ?_ <;> (repeat' first | trivial | rfl | exact eqS _ _ | apply And.intro | apply eqA | apply eqB | apply eqC | apply eqD | apply eqE | apply eqF | apply eqG | apply eqH | apply eqI)
  obtain ⟨n, rfl⟩ : ∃ m, n = m + 1 := ⟨n - 1, by omega⟩
  rw [allD] at he
  obtain ⟨x1, x2, x3⟩ := apy hd
  have on := fun h => ali hd h
  have hsl : d.s.length ≤ 10000000 := by rw [hds]; exact hp
  have hk : d.next.2.k.toNat < 256 := d.next.2.k.toNat_lt
  have hp1 := hd.1
  have hp2 := hd.2
  repeat' ((conv => whnf); first | with_reducible (first | refine go1 (fun j q h => ?_) fun h => ?_ | refine go2 ⟨rfl, rfl⟩ (fun h => ?_) fun j h => ?_ | refine go2 ?_ (fun h => ?_) fun j h => ?_ | refine goQ ?_ (fun h => ?_) fun h => ?_) | refine go3 ?_ ?_ | refine go4 ?_ ?_ | refine go5 ?_ | ((first | refine go6 ?_ ?_ | refine go7 ?_ ?_ | refine go8 ?_ ?_ | refine go9 ?_ ?_ | refine goA ?_ ?_) <;> intro h) | with_reducible (first | refine aai.mk _ rfl ?_ | refine goB ?_ fun hc => ?_ | refine goC ?_ fun hc => ?_ | refine goD ?_ fun hc => ?_ | refine goE ?_ fun hc => ?_ | refine goF ?_ ?_ | refine goG ?_ ?_ | refine goH ?_ fun b hb => ?_) | refine goI ?_ | refine goJ ?_ ?_ | refine goK ?_ ?_ ?_ | refine goL ?_ ?_ ?_ ?_ | refine goM ?_ ?_ ?_ ?_ ?_ | refine goN ?_ ?_ | refine goO ?_ ?_ | with_reducible refine goP ?_)
  all_goals try conv => whnf
  all_goals try (refine aac.mk ?_; try dsimp only)
  all_goals (try simp only [aa3] at *)
  all_goals first
    | (refine stay ?_)
    | (first | trivial | omega | (simp (discharger := omega) only [wR]; omega) | (simp only [lnS]; omega) | (simp (discharger := omega) [-List.getD_eq_getElem?_getD, wR] <;> omega)) | skip
  · have z : d.aan.1.c = 0 := by rw [← x2]; assumption
    have k0 : d.aan.2.k = 0 := by rw [← x1]; exact UInt8.toNat_inj.1 (by show _ = 0; omega)
    rw [if_neg (by omega), if_pos k0] at he
    rw [← he]
    refine aa9.mk [.swap 0 1] ?_ <;> (repeat' first | trivial | rfl | exact eqS _ _ | apply And.intro | apply eqA | apply eqB | apply eqC | apply eqD | apply eqE | apply eqF | apply eqG | apply eqH | apply eqI)
  · have z : d.aan.1.c = 0 := by rw [← x2]; assumption
    have k0 : d.aan.2.k ≠ 0 := fun e => by
      rw [← x1] at e
      exact absurd (show ((d.next.2.k.toNat : Nat) : Int) = 0 by rw [e]; rfl) (by assumption)
    obtain ⟨o1, o2, o3, o4, o5, o6⟩ := on z
    have o6 := o6 k0
    have o7 := o1.1
    rw [if_neg (by omega), if_neg k0] at he
    refine ⟨[], (n, d.aan.1, l ++ [d.aan.2]), ⟨o1, o2.trans hds, z, by show d.aan.1.e - d.aan.1.p < n; omega, by show (l ++ [d.aan.2]).length ≤ d.aan.1.p; rw [List.length_append, List.length_singleton]; omega, he⟩, ?_, by show n < n + 1; omega⟩
    rw [← x3 z, ← x1]
    refine Go.VG.Sub.mk rfl ?_ ?_ ?_ ?_ <;> (repeat' first | trivial | rfl | exact eqS _ _ | apply And.intro | apply eqA | apply eqB | apply eqC | apply eqD | apply eqE | apply eqF | apply eqG | apply eqH | apply eqI)
    simp
  · have z : d.aan.1.c ≠ 0 := by rw [← x2]; assumption
    rw [if_pos z] at he
    rw [← he, ← x2]
    refine aa9.mk [.tm 2 2, .swap 0 3] ?_ <;> (repeat' first | trivial | rfl | exact eqS _ _ | apply And.intro | apply eqA | apply eqB | apply eqC | apply eqD | apply eqE | apply eqF | apply eqG | apply eqH | apply eqI)
def sm_jtAll : Sm := fun args σ => match args, σ with
  | [.str s], [] => some (s.length ≤ 10000000, .tuple [.buf 0, .int .i64 (allT s).2], some [.buf 2 0 ((allT s).1.map vT)])
  | _, _ => none
def ark (t : Tk) : List UInt8 := if t.k.toNat = 115 then quote t.t else if t.k.toNat = 110 then t.t else if ach t.k = true then [t.k] else spell t.k
theorem a0j (l : List V) : List.take (List.replicate (l.length : Int).toNat (V.int .u8 0)).length l ++ List.drop l.length (List.replicate (l.length : Int).toNat (V.int .u8 0)) = l := by simp
theorem aw4 (c : Bool) (l : List V) (k : UInt8) (t : List UInt8) (hp : l.length ≤ 100000000 ∧ t.length ≤ 10000000) : OK 12 ([.list c 1 l, .agg [bv k, .str t]]) ([]) (.buf 0) (some [.buf 1 0 (l ++ bl (ark ⟨k, t⟩))]) := by
  refine aa0 (C := cx [(36, aea), (37, aey), (38, ahj)]) (abh ⟨aiq, akg, apn, trivial⟩) (fn := Try.f12) rfl rfl rfl rfl fun hw hs => ?_
  have hk : k.toNat < 256 := k.toNat_lt
  have hkk : byte k.toNat = k := aaf _
  have hq := axf t
  have hsp : (spell k).length ≤ 5 := by
    unfold spell; repeat' split
    all_goals simp
  repeat' ((conv => whnf); first | with_reducible (first | refine go1 (fun j q h => ?_) fun h => ?_ | refine go2 ⟨rfl, rfl⟩ (fun h => ?_) fun j h => ?_ | refine go2 ?_ (fun h => ?_) fun j h => ?_ | refine goQ ?_ (fun h => ?_) fun h => ?_) | refine go3 ?_ ?_ | refine go4 ?_ ?_ | refine go5 ?_ | ((first | refine go6 ?_ ?_ | refine go7 ?_ ?_ | refine go8 ?_ ?_ | refine go9 ?_ ?_ | refine goA ?_ ?_) <;> intro h) | with_reducible (first | refine aai.mk _ rfl ?_ | refine goB ?_ fun hc => ?_ | refine goC ?_ fun hc => ?_ | refine goD ?_ fun hc => ?_ | refine goE ?_ fun hc => ?_ | refine goF ?_ ?_ | refine goG ?_ ?_ | refine goH ?_ fun b hb => ?_) | refine goI ?_ | refine goJ ?_ ?_ | refine goK ?_ ?_ ?_ | refine goL ?_ ?_ ?_ ?_ | refine goM ?_ ?_ ?_ ?_ ?_ | refine goN ?_ ?_ | refine goO ?_ ?_ | with_reducible refine goP ?_)
  all_goals try conv => whnf
  all_goals try (refine aac.mk ?_; try dsimp only)
  all_goals (try simp only [a0j] at *)
  all_goals (try simp only [aa3] at *)
  all_goals first
    | (refine stay ?_)
    | (first | trivial | omega | (simp (discharger := omega) only [wR]; omega) | (simp only [lnS]; omega) | (simp (discharger := omega) [-List.getD_eq_getElem?_getD, wR] <;> omega)) | skip
  all_goals (try simp only [hkk] at *)
  all_goals first
    | (refine ⟨by omega, ?_⟩; omega)
    | exact ⟨by omega, trivial⟩
    | (rw [aap]; omega)
    | skip
  all_goals
    have sT : ach k = true ↔ (k.toNat = 123 ∨ k.toNat = 125 ∨ k.toNat = 91 ∨ k.toNat = 93 ∨ k.toNat = 58 ∨ k.toNat = 44) := decide_eq_true_iff
    rw [show ark ⟨k, t⟩ = if k.toNat = 115 then quote t else if k.toNat = 110 then t else if ach k = true then [k] else spell k from rfl]
    repeat (first | rw [if_pos (by rw [sT]; omega)] | rw [if_neg (by rw [sT]; omega)] | rw [if_pos (by omega)] | rw [if_neg (by omega)])
    refine aa9.mk [.swap 0 1] ?_ <;> (repeat' first | trivial | rfl | exact eqS _ _ | apply And.intro | apply eqA | apply eqB | apply eqC | apply eqD | apply eqE | apply eqF | apply eqG | apply eqH | apply eqI)
  all_goals first
    | rfl
    | (unfold spell
       rw [if_neg (by omega), if_neg (by omega), if_neg (by omega)]
       simp [bl])
    | skip
theorem a6a (z : Nat) (k : UInt8) (t : List UInt8) (hp : t.length ≤ 10000000) : OK 12 ([.list true z [], .agg [bv k, .str t]]) ([]) (.buf 0) (some [.buf 1 0 (bl (ark ⟨k, t⟩))]) := by
  exact (aw4 true [] k t ⟨by simp, hp⟩).args (WkL.cons (Wk.nil (.inl rfl)) (WkL.refl _))
theorem a6b (l : List V) (k : UInt8) (t : List UInt8) (hp : l.length ≤ 100000000 ∧ t.length ≤ 10000000) : OK 12 ([.buf 0, .agg [bv k, .str t]]) ([.buf 1 0 l]) (.buf 0) (some [.buf 1 0 (l ++ bl (ark ⟨k, t⟩))]) := by
  refine aa0 (C := cx [(36, aea), (37, aey), (38, ahj)]) (abh ⟨aiq, akg, apn, trivial⟩) (fn := Try.f12) rfl rfl rfl rfl fun hw hs => ?_
  have hk : k.toNat < 256 := k.toNat_lt
  have hkk : byte k.toNat = k := aaf _
  have hq := axf t
  have hsp : (spell k).length ≤ 5 := by
    unfold spell; repeat' split
    all_goals simp
  repeat' ((conv => whnf); first | with_reducible (first | refine go1 (fun j q h => ?_) fun h => ?_ | refine go2 ⟨rfl, rfl⟩ (fun h => ?_) fun j h => ?_ | refine go2 ?_ (fun h => ?_) fun j h => ?_ | refine goQ ?_ (fun h => ?_) fun h => ?_) | refine go3 ?_ ?_ | refine go4 ?_ ?_ | refine go5 ?_ | ((first | refine go6 ?_ ?_ | refine go7 ?_ ?_ | refine go8 ?_ ?_ | refine go9 ?_ ?_ | refine goA ?_ ?_) <;> intro h) | with_reducible (first | refine aai.mk _ rfl ?_ | refine goB ?_ fun hc => ?_ | refine goC ?_ fun hc => ?_ | refine goD ?_ fun hc => ?_ | refine goE ?_ fun hc => ?_ | refine goF ?_ ?_ | refine goG ?_ ?_ | refine goH ?_ fun b hb => ?_) | refine goI ?_ | refine goJ ?_ ?_ | refine goK ?_ ?_ ?_ | refine goL ?_ ?_ ?_ ?_ | refine goM ?_ ?_ ?_ ?_ ?_ | refine goN ?_ ?_ | refine goO ?_ ?_ | with_reducible refine goP ?_)
  all_goals try conv => whnf
  all_goals try (refine aac.mk ?_; try dsimp only)
  all_goals (try simp only [a0j] at *)
  all_goals (try simp only [aa3] at *)
  all_goals first
    | (refine stay ?_)
    | (first | trivial | omega | (simp (discharger := omega) only [wR]; omega) | (simp only [lnS]; omega) | (simp (discharger := omega) [-List.getD_eq_getElem?_getD, wR] <;> omega)) | skip
  all_goals (try simp only [hkk] at *)
  all_goals first
    | (refine ⟨by omega, ?_⟩; omega)
    | exact ⟨by omega, trivial⟩
    | (rw [aap]; omega)
    | skip
  all_goals
    have sT : ach k = true ↔ (k.toNat = 123 ∨ k.toNat = 125 ∨ k.toNat = 91 ∨ k.toNat = 93 ∨ k.toNat = 58 ∨ k.toNat = 44) := decide_eq_true_iff
    rw [show ark ⟨k, t⟩ = if k.toNat = 115 then quote t else if k.toNat = 110 then t else if ach k = true then [k] else spell k from rfl]
    repeat (first | rw [if_pos (by rw [sT]; omega)] | rw [if_neg (by rw [sT]; omega)] | rw [if_pos (by omega)] | rw [if_neg (by omega)])
    refine aa9.mk [.swap 0 2] ?_ <;> (repeat' first | trivial | rfl | exact eqS _ _ | apply And.intro | apply eqA | apply eqB | apply eqC | apply eqD | apply eqE | apply eqF | apply eqG | apply eqH | apply eqI)
  all_goals first
    | rfl
    | (unfold spell
       rw [if_neg (by omega), if_neg (by omega), if_neg (by omega)]
       simp [bl])
    | skip
def aut : Sm := fun args σ => match args, σ with
  | [.list c 1 l, .agg [.int .u8 n_k, .str t]], [] => some ((0 ≤ n_k ∧ n_k ≤ 255) ∧ (l.length ≤ 100000000 ∧ t.length ≤ 10000000), .buf 0, some [.buf 1 0 (l ++ bl (ark ⟨(byte n_k), t⟩))])
  | [.list true z [], .agg [.int .u8 n_k, .str t]], [] => some ((0 ≤ n_k ∧ n_k ≤ 255) ∧ (t.length ≤ 10000000), .buf 0, some [.buf 1 0 (bl (ark ⟨(byte n_k), t⟩))])
  | [.buf 0, .agg [.int .u8 n_k, .str t]], [.buf 1 0 l] => some ((0 ≤ n_k ∧ n_k ≤ 255) ∧ (l.length ≤ 100000000 ∧ t.length ≤ 10000000), .buf 0, some [.buf 1 0 (l ++ bl (ark ⟨(byte n_k), t⟩))])
  | _, _ => none
theorem bdr : SOK 12 aut := by
  intro args sg pre x r he hp
  unfold aut at he
  split at he <;> cases he
  · rw [af3 (hp).1]; exact aw4 (hp := hp.2) ..
  · rw [af3 (hp).1]; exact a6a (hp := hp.2) ..
  · rw [af3 (hp).1]; exact a6b (hp := hp.2) ..
end Go.Proofs.Ytllncocibkgjkaa
