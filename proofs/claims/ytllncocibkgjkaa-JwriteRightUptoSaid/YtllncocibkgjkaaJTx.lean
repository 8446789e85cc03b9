/-
  A part of the proof.
-/
import Derived.Test.YtllncocibkgjkaaJTw
import Derived.Test.YtllncocibkgjkaaPQuote
set_option linter.unusedSimpArgs false
set_option linter.unusedVariables false
set_option maxHeartbeats 4000000
namespace Go.Proofs.Ytllncocibkgjkaa
open Go Go.VG
set_option maxRecDepth 100000
abbrev vT (t : Tk) : V := .agg (eT t)
def o8 (s : List UInt8) : List Tk × Int := pV (s.length + 1) (.new s) []
theorem FV (s : List UInt8) : (Cu.new s).ok := ⟨Nat.zero_le _, Nat.le_refl _⟩
theorem zY (t : List UInt8) : ∀ (n i : Nat) (o : List UInt8), (cA t n i o).1 = 0 → i < (cA t n i o).2.1 ∧ (cA t n i o).2.1 ≤ t.length
 | 0, _, _, h => by rw [cA] at h; simp at h
 | n + 1, i, o, h => by
   rw [cA] at h ⊢
   by_cases a : t.length ≤ i
   . rw [if_pos a] at h; simp at h
   rw [if_neg a] at h ⊢
   by_cases b : (t.getD i 0).toNat = 34
   . rw [if_pos b]; exact ⟨by show i < i + 1; omega, by show i + 1 ≤ _; omega⟩
   rw [if_neg b] at h ⊢
   by_cases c : (c6 t i).2.2 ≠ 0
   . rw [if_pos c] at h; exact absurd h c
   rw [if_neg c] at h ⊢
   have h1 := zY t n (c6 t i).2.1.toNat _ h
   have h2 := GF t i (by omega)
   omega
theorem tQ (t : List UInt8) (i : Nat) (h : (cH t i).2 = 0) : i < (cH t i).1 := by
 revert h; unfold cH; repeat' split
 all_goals (intro h; first | (dsimp only; omega) | (exfalso; simp at h))
theorem G7 (t : List UInt8) (i : Nat) (hi : i ≤ t.length) (h : (cR t i).2 = 0) : i < (cR t i).1 := by
 have h1 := px t i 45 45 hi
 have w : (bd t i).2 = 0 → i < (bd t i).1 ∧ (bd t i).1 ≤ t.length := by
  unfold bd; split
  . rename_i q; have := (gW.1 q).1; intro _; dsimp only; omega
  . intro h; have := tQ t _ h; have := nq t _ h1.2; omega
 have b : (bZ t (bd t i)).2 = 0 → i < (bZ t (bd t i)).1 ∧ (bZ t (bd t i)).1 ≤ t.length := by
  generalize bd t i = x at *
  unfold bZ; split
  . rename_i q; intro h; have := (gW.1 q.2).1; have := w q.1; have := tQ t _ h; have := nq t (x.1 + 1) (by omega); omega
  . exact w
 revert h
 unfold cR
 generalize bZ t (bd t i) = x at *
 unfold gG; split
 . rename_i q; intro h; have := b q.1; have := (gW.1 q.2).1; have := px t (x.1 + 1) 43 45 (by omega); have := tQ t _ h; omega
 . exact fun h => (b h).1
theorem zo {c : Cu} (hk : c.ok) (h : c.bF.1.c = 0) : c.bF.1.ok ∧ c.bF.1.s = c.s ∧ c.bF.1.e = c.e ∧ c.c = 0 ∧ c.p ≤ c.bF.1.p ∧ (c.bF.2.k ≠ 0 → c.p < c.bF.1.p) := by
 have hl := eY hk
 unfold Cu.bF at h ⊢
 by_cases h0 : c.c = 0
 . rw [if_neg (by omega)] at h ⊢
   have hr := uo d6 c.a8 c.p
   have hp := hk.1
   have hd : Cu.ok { c with p := dr d6 c.a8 c.p } := ⟨by show dr d6 c.a8 c.p ≤ c.e; omega, hk.2⟩
   have hr1 : c.p ≤ ({ c with p := dr d6 c.a8 c.p } : Cu).p := hr.1
   have e1 : ({ c with p := dr d6 c.a8 c.p } : Cu).s = c.s := rfl
   have e2 : ({ c with p := dr d6 c.a8 c.p } : Cu).e = c.e := rfl
   have e3 : ({ c with p := dr d6 c.a8 c.p } : Cu).c = 0 := h0
   generalize ({ c with p := dr d6 c.a8 c.p } : Cu) = d at *
   have hdl := eY hd
   have fl : ∀ k : Int, k ≠ 0 → (d.fail k).c ≠ 0 := fun k hk => by rw [fk _ e3]; exact hk
   rw [← e1, ← e2]
   unfold Cu.iA at h ⊢
   by_cases a : d.p = d.e
   . rw [if_pos a]; exact ⟨hd, rfl, rfl, h0, hr1, fun k => absurd rfl k⟩
   rw [if_neg a] at h ⊢
   have hlt : d.p < d.e := by have := hd.1; omega
   have bq : ∀ n, d.p + n ≤ d.e → 0 < n → Cu.ok { d with p := d.p + n } ∧ c.p ≤ d.p + n ∧ c.p < d.p + n := fun n hn h0 => ⟨⟨hn, hd.2⟩, by omega, by omega⟩
   by_cases b : dL d.get = true
   . rw [if_pos b]; exact ⟨(bq 1 (by omega) (by omega)).1, rfl, rfl, h0, by show c.p ≤ d.p + 1; omega, fun _ => by show c.p < d.p + 1; omega⟩
   rw [if_neg b] at h ⊢
   by_cases g : d.get.toNat = 34
   . rw [if_pos g] at h ⊢
     unfold held Cu.gJ at h ⊢
     rw [if_neg (by omega), if_neg a, if_neg (by omega)] at h ⊢
     by_cases z : (cA (d.s.take d.e) (d.e - d.p) (d.p + 1) []).1 = 0
     . rw [if_pos z]
       have := zY _ _ _ _ z
       have hlen : (d.s.take d.e).length = d.e := hdl
       generalize cA (d.s.take d.e) (d.e - d.p) (d.p + 1) [] = R at *
       refine ⟨⟨by show R.2.1 ≤ d.e; omega, hd.2⟩, rfl, rfl, h0, by show c.p ≤ R.2.1; omega, fun _ => by show c.p < R.2.1; omega⟩
     . rw [if_neg z] at h; exact absurd h (fl _ z)
   rw [if_neg g] at h ⊢
   by_cases f : d.get.toNat = 45 ∨ bM d.get = true
   . rw [if_pos f] at h ⊢
     unfold held Cu.kP at h ⊢
     rw [if_neg (by omega)] at h ⊢
     by_cases z : (cR d.a8 d.p).2 = 0
     . rw [if_neg (by omega)]
       have q1 := G7 d.a8 d.p (by omega) z
       have q2 := G6 d.a8 d.p (by omega)
       generalize cR d.a8 d.p = R at *
       refine ⟨⟨by show R.1 ≤ d.e; omega, hd.2⟩, rfl, rfl, h0, by show c.p ≤ R.1; omega, fun _ => by show c.p < R.1; omega⟩
     . rw [if_pos z] at h; exact absurd h (fl _ z)
   rw [if_neg f] at h ⊢
   have hw : ∀ k, 0 < (spell k).length → (d.fC k).1.c = 0 → (d.fC k).1.ok ∧ (d.fC k).1.s = d.s ∧ (d.fC k).1.e = d.e ∧ c.c = 0 ∧ c.p ≤ (d.fC k).1.p ∧ ((d.fC k).2.k ≠ 0 → c.p < (d.fC k).1.p) := fun k hsp h => by
    have hwe : ∀ (s : List UInt8) (i : Nat), fD d s i = 0 → s = [] ∨ d.p + i + s.length ≤ d.e := by
     intro s
     induction s with
     | nil => intro i _; exact .inl rfl
     | cons b s ih =>
       intro i hi
       unfold fD at hi
       split at hi
       . simp at hi
       . split at hi
         . simp at hi
         . right
           rcases ih (i + 1) hi with e | e
           . subst e; simp; omega
           . simp; omega
    unfold Cu.fC at h ⊢
    by_cases z : fD d (spell k) 0 = 0
    . rw [if_neg (by omega)]
      refine ⟨⟨?_, hd.2⟩, rfl, rfl, h0, by show c.p ≤ d.p + (spell k).length; omega, fun hk0 => ?_⟩
      . rcases hwe _ _ z with e | e
        . rw [e]; exact hd.1
        . show d.p + (spell k).length ≤ d.e; omega
      . show c.p < d.p + (spell k).length; omega
    . rw [if_pos z] at h; exact absurd h (fl _ z)
   by_cases w : d.get.toNat = 116 ∨ d.get.toNat = 102
   . rw [if_pos w] at h ⊢
     refine hw _ ?_ h
     unfold spell
     rcases w with w | w <;> simp [w]
   rw [if_neg w] at h ⊢
   by_cases v : d.get.toNat = 110
   . rw [if_pos v] at h ⊢; exact hw _ (by decide) h
   rw [if_neg v] at h; exact absurd h (fl 3 (by decide))
 . rw [if_pos h0] at h; exact absurd h h0
theorem IG (s : List UInt8) (hp : s.length ≤ 10000000) : OK 11 ([.str s]) ([]) (.tuple [.buf 0, .int .i64 (o8 s).2]) (some [.buf 2 0 ((o8 s).1.map vT)]) := by
 refine az (C := cx [(17, rv), (18, ma), (21, iy)]) (ax ⟨yb, oL, jb, trivial⟩) (fn := Try.f11) rfl rfl rfl rfl fun hw hs => ?_
 repeat' ((conv => whnf); apply al)
 all_goals try conv => whnf
 all_goals try (refine af.mk ?_; try dsimp only)
 all_goals (try simp only [aO] at *)
 all_goals try refine stay ?_
 refine cg.mk (Nat × Cu × List Tk) (fun | (n, d, l) => d.ok ∧ d.s = s ∧ d.c = 0 ∧ d.e - d.p < n ∧ l.length ≤ d.p ∧ pV n d l = o8 s) (fun | (n, d, l) => ⟨24, [(4, .ptr 0 0), (5, .buf 1)], [.cells (eC d), .buf 2 0 (l.map vT)], [1]⟩) (fun x => x.1) [.tm 5 2] (s.length + 1, .new s, []) ⟨FV s, rfl, rfl, by show s.length - 0 < s.length + 1; omega, by simp, rfl⟩ ?_ (fun ⟨n, d, l⟩ ⟨hd, hds, hd0, hn, hl, he⟩ _ _ => ?_)
 . refine Go.VG.Sub.mk rfl ?_ ?_ ?_ ?_ <;> (repeat' first | trivial)
 obtain ⟨n, rfl⟩ : ∃ m, n = m + 1 := ⟨n - 1, by omega⟩
 rw [pV] at he
 obtain ⟨x1, x2, x3⟩ := nr hd
 have on := fun h => zo hd h
 have hsl : d.s.length ≤ 10000000 := by rw [hds]; exact hp
 have hk : d.next.2.k.toNat < 256 := d.next.2.k.toNat_lt
 have hp1 := hd.1
 have hp2 := hd.2
 repeat' ((conv => whnf); first | apply al | apply bh | (apply ay <;> intro h))
 all_goals try conv => whnf
 all_goals try (refine af.mk ?_; try dsimp only)
 all_goals (try simp only [aO] at *)
 all_goals first | refine stay ?_ | trivial | (simp (discharger := omega) [-List.getD_eq_getElem?_getD, wR] <;> omega) | skip
 . have z : d.bF.1.c = 0 := by rw [← x2]; assumption
   have k0 : d.bF.2.k = 0 := by rw [← x1]; exact UInt8.toNat_inj.1 (by show _ = 0; omega)
   rw [if_neg (by omega), if_pos k0] at he
   rw [← he]
   refine ah.mk [.swap 0 1] ?_ <;> (repeat' first | trivial)
 . have z : d.bF.1.c = 0 := by rw [← x2]; assumption
   have k0 : d.bF.2.k ≠ 0 := fun e => by
    rw [← x1] at e
    exact absurd (show ((d.next.2.k.toNat : Nat) : Int) = 0 by rw [e]; rfl) (by assumption)
   obtain ⟨o1, o2, o3, o4, o5, o6⟩ := on z
   have o6 := o6 k0
   have o7 := o1.1
   rw [if_neg (by omega), if_neg k0] at he
   refine ⟨[], (n, d.bF.1, l ++ [d.bF.2]), ⟨o1, o2.trans hds, z, by show d.bF.1.e - d.bF.1.p < n; omega, by show (l ++ [d.bF.2]).length ≤ d.bF.1.p; rw [List.length_append, List.length_singleton]; omega, he⟩, ?_, by show n < n + 1; omega⟩
   rw [← x3 z, ← x1]
   refine Go.VG.Sub.mk rfl ?_ ?_ ?_ ?_ <;> (repeat' first | trivial | apply ak | apply aJ)
   simp
 . have z : d.bF.1.c ≠ 0 := by rw [← x2]; assumption
   rw [if_pos z] at he
   rw [← he, ← x2]
   refine ah.mk [.tm 2 2, .swap 0 3] ?_ <;> (repeat' first | trivial)
def sm_jtAll : Sm := fun args σ => match args, σ with
 | [.str s], [] => some (s.length ≤ 10000000, .tuple [.buf 0, .int .i64 (o8 s).2], some [.buf 2 0 ((o8 s).1.map vT)])
 | _, _ => none
def bG (t : Tk) : List UInt8 := if t.k.toNat = 115 then quote t.t else if t.k.toNat = 110 then t.t else if dL t.k = true then [t.k] else spell t.k
theorem wO (l : List V) : List.take (List.replicate (l.length : Int).toNat (V.int .u8 0)).length l ++ List.drop l.length (List.replicate (l.length : Int).toNat (V.int .u8 0)) = l := by simp
theorem xl (c : Bool) (l : List V) (k : UInt8) (t : List UInt8) (hp : l.length ≤ 100000000 ∧ t.length ≤ 10000000) : OK 12 ([.list c 1 l, .agg [bv k, .str t]]) ([]) (.buf 0) (some [.buf 1 0 (l ++ bl (bG ⟨k, t⟩))]) := by
 refine az (C := cx [(36, kX), (37, pB), (38, pA)]) (ax ⟨nc, tx, tw, trivial⟩) (fn := Try.f12) rfl rfl rfl rfl fun hw hs => ?_
 have hk : k.toNat < 256 := k.toNat_lt
 have hkk : byte k.toNat = k := cF _
 have hq := r9 t
 have hsp : (spell k).length ≤ 5 := by
  unfold spell; repeat' split
  all_goals simp
 repeat' ((conv => whnf); first | apply al | (apply ay <;> intro h))
 all_goals try conv => whnf
 all_goals try (refine af.mk ?_; try dsimp only)
 all_goals (try simp only [wO] at *)
 all_goals first | refine stay ?_ | omega | (simp (discharger := omega) only [wR]; omega) | (simp only [cD]; omega) | (simp (discharger := omega) [-List.getD_eq_getElem?_getD, wR] <;> omega) | skip
 all_goals (try simp only [hkk] at *)
 all_goals first
  | (refine ⟨by omega, ?_⟩; omega)
  | exact ⟨by omega, trivial⟩
  | (rw [cE]; omega)
  | skip
 all_goals
  have sT : dL k = true ↔ (k.toNat = 123 ∨ k.toNat = 125 ∨ k.toNat = 91 ∨ k.toNat = 93 ∨ k.toNat = 58 ∨ k.toNat = 44) := decide_eq_true_iff
  rw [show bG ⟨k, t⟩ = if k.toNat = 115 then quote t else if k.toNat = 110 then t else if dL k = true then [k] else spell k from rfl]
  repeat (first | rw [if_pos (by rw [sT]; omega)] | rw [if_neg (by rw [sT]; omega)] | rw [if_pos (by omega)] | rw [if_neg (by omega)])
  refine ah.mk [.swap 0 1] ?_ <;> (repeat' first | trivial | apply ak | apply aJ)
 all_goals first
  | rfl
  | (unfold spell
     rw [if_neg (by omega), if_neg (by omega), if_neg (by omega)]
     simp [bl])
  | skip
theorem Dg (z : Nat) (k : UInt8) (t : List UInt8) (hp : t.length ≤ 10000000) : OK 12 ([.list true z [], .agg [bv k, .str t]]) ([]) (.buf 0) (some [.buf 1 0 (bl (bG ⟨k, t⟩))]) := by
 exact (xl true [] k t ⟨by simp, hp⟩).args (cN.cons (Wk.nil (.inl rfl)) (cN.refl _))
theorem Dh (l : List V) (k : UInt8) (t : List UInt8) (hp : l.length ≤ 100000000 ∧ t.length ≤ 10000000) : OK 12 ([.buf 0, .agg [bv k, .str t]]) ([.buf 1 0 l]) (.buf 0) (some [.buf 1 0 (l ++ bl (bG ⟨k, t⟩))]) := by
 refine az (C := cx [(36, kX), (37, pB), (38, pA)]) (ax ⟨nc, tx, tw, trivial⟩) (fn := Try.f12) rfl rfl rfl rfl fun hw hs => ?_
 have hk : k.toNat < 256 := k.toNat_lt
 have hkk : byte k.toNat = k := cF _
 have hq := r9 t
 have hsp : (spell k).length ≤ 5 := by
  unfold spell; repeat' split
  all_goals simp
 repeat' ((conv => whnf); first | apply al | (apply ay <;> intro h))
 all_goals try conv => whnf
 all_goals try (refine af.mk ?_; try dsimp only)
 all_goals (try simp only [wO] at *)
 all_goals first | refine stay ?_ | omega | (simp (discharger := omega) only [wR]; omega) | (simp only [cD]; omega) | (simp (discharger := omega) [-List.getD_eq_getElem?_getD, wR] <;> omega) | skip
 all_goals (try simp only [hkk] at *)
 all_goals first
  | (refine ⟨by omega, ?_⟩; omega)
  | exact ⟨by omega, trivial⟩
  | (rw [cE]; omega)
  | skip
 all_goals
  have sT : dL k = true ↔ (k.toNat = 123 ∨ k.toNat = 125 ∨ k.toNat = 91 ∨ k.toNat = 93 ∨ k.toNat = 58 ∨ k.toNat = 44) := decide_eq_true_iff
  rw [show bG ⟨k, t⟩ = if k.toNat = 115 then quote t else if k.toNat = 110 then t else if dL k = true then [k] else spell k from rfl]
  repeat (first | rw [if_pos (by rw [sT]; omega)] | rw [if_neg (by rw [sT]; omega)] | rw [if_pos (by omega)] | rw [if_neg (by omega)])
  refine ah.mk [.swap 0 2] ?_ <;> (repeat' first | trivial | apply ak | apply aJ)
 all_goals first
  | rfl
  | (unfold spell
     rw [if_neg (by omega), if_neg (by omega), if_neg (by omega)]
     simp [bl])
  | skip
def uY : Sm := fun args σ => match args, σ with
 | [.list c 1 l, .agg [.int .u8 n_k, .str t]], [] => some ((0 ≤ n_k ∧ n_k ≤ 255) ∧ (l.length ≤ 100000000 ∧ t.length ≤ 10000000), .buf 0, some [.buf 1 0 (l ++ bl (bG ⟨(byte n_k), t⟩))])
 | [.list true z [], .agg [.int .u8 n_k, .str t]], [] => some ((0 ≤ n_k ∧ n_k ≤ 255) ∧ (t.length ≤ 10000000), .buf 0, some [.buf 1 0 (bl (bG ⟨(byte n_k), t⟩))])
 | [.buf 0, .agg [.int .u8 n_k, .str t]], [.buf 1 0 l] => some ((0 ≤ n_k ∧ n_k ≤ 255) ∧ (l.length ≤ 100000000 ∧ t.length ≤ 10000000), .buf 0, some [.buf 1 0 (l ++ bl (bG ⟨(byte n_k), t⟩))])
 | _, _ => none
theorem F1 : aI 12 uY := by
 intro args sg pre x r he hp
 unfold uY at he
 split at he <;> cases he
 . rw [eK (hp).1]; exact xl (hp := hp.2) ..
 . rw [eK (hp).1]; exact Dg (hp := hp.2) ..
 . rw [eK (hp).1]; exact Dh (hp := hp.2) ..
end Go.Proofs.Ytllncocibkgjkaa
