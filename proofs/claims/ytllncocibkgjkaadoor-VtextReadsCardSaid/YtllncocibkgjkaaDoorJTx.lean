/-
  A part of the proof.
-/
import Derived.Test.YtllncocibkgjkaaDoorJTw
import Derived.Test.YtllncocibkgjkaaDoorPQuote
set_option linter.unusedSimpArgs false
set_option linter.unusedVariables false
set_option maxHeartbeats 4000000
namespace Go.Proofs.YtllncocibkgjkaaDoor
open Go Go.VG
set_option maxRecDepth 100000
theorem Br (t : List UInt8) : ∀ (n i : Nat) (o : List UInt8), (eo t n i o).1 = 0 → i < (eo t n i o).2.1 ∧ (eo t n i o).2.1 ≤ t.length
 | 0, _, _, h => by rw [eo] at h; simp at h
 | n + 1, i, o, h => by
   rw [eo] at h ⊢
   by_cases a : t.length ≤ i
   . rw [if_pos a] at h; simp at h
   rw [if_neg a] at h ⊢
   by_cases b : (t.getD i 0).toNat = 34
   . rw [if_pos b]; exact ⟨by show i < i + 1; omega, by show i + 1 ≤ _; omega⟩
   rw [if_neg b] at h ⊢
   by_cases c : (dn t i).2.2 ≠ 0
   . rw [if_pos c] at h; exact absurd h c
   rw [if_neg c] at h ⊢
   have h1 := Br t n (dn t i).2.1.toNat _ h
   have h2 := IC t i (by omega)
   omega
theorem v8 (t : List UInt8) (i : Nat) (h : (dz t i).2 = 0) : i < (dz t i).1 := by
 revert h; unfold dz; repeat' split
 all_goals (intro h; first | (dsimp only; omega) | (exfalso; simp at h))
theorem I1 (t : List UInt8) (i : Nat) (hi : i ≤ t.length) (h : (dI t i).2 = 0) : i < (dI t i).1 := by
 have h1 := qC t i 45 45 hi
 have w : (cj t i).2 = 0 → i < (cj t i).1 ∧ (cj t i).1 ≤ t.length := by
  unfold cj; split
  . rename_i q; have := (iZ.1 q).1; intro _; dsimp only; omega
  . intro h; have := v8 t _ h; have := oE t _ h1.2; omega
 have b : (cT t (cj t i)).2 = 0 → i < (cT t (cj t i)).1 ∧ (cT t (cj t i)).1 ≤ t.length := by
  generalize cj t i = x at *
  unfold cT; split
  . rename_i q; intro h; have := (iZ.1 q.2).1; have := w q.1; have := v8 t _ h; have := oE t (x.1 + 1) (by omega); omega
  . exact w
 revert h
 unfold dI
 generalize cT t (cj t i) = x at *
 unfold iK; split
 . rename_i q; intro h; have := b q.1; have := (iZ.1 q.2).1; have := qC t (x.1 + 1) 43 45 (by omega); have := v8 t _ h; omega
 . exact fun h => (b h).1
theorem HL {c : Cu} (hk : c.ok) (h : c.eZ.1.c = 0) : c.eZ.1.ok ∧ c.eZ.1.s = c.s ∧ c.eZ.1.e = c.e ∧ c.c = 0 ∧ c.p ≤ c.eZ.1.p ∧ (c.eZ.2.k ≠ 0 → c.p < c.eZ.1.p) := by
 have hl := gj hk
 unfold Cu.eZ at h ⊢
 by_cases h0 : c.c = 0
 . rw [if_neg (by omega)] at h ⊢
   have hr := vI dS c.a9 c.p
   have hp := hk.1
   have hd : Cu.ok { c with p := eE dS c.a9 c.p } := ⟨by show eE dS c.a9 c.p ≤ c.e; omega, hk.2⟩
   have hr1 : c.p ≤ ({ c with p := eE dS c.a9 c.p } : Cu).p := hr.1
   have e1 : ({ c with p := eE dS c.a9 c.p } : Cu).s = c.s := rfl
   have e2 : ({ c with p := eE dS c.a9 c.p } : Cu).e = c.e := rfl
   have e3 : ({ c with p := eE dS c.a9 c.p } : Cu).c = 0 := h0
   generalize ({ c with p := eE dS c.a9 c.p } : Cu) = d at *
   have hdl := gj hd
   have fl : ∀ k : Int, k ≠ 0 → (d.fail k).c ≠ 0 := fun k hk => by rw [gT _ e3]; exact hk
   rw [← e1, ← e2]
   unfold Cu.kh at h ⊢
   by_cases a : d.p = d.e
   . rw [if_pos a]; exact ⟨hd, rfl, rfl, h0, hr1, fun k => absurd rfl k⟩
   rw [if_neg a] at h ⊢
   have hlt : d.p < d.e := by have := hd.1; omega
   have cC : ∀ n, d.p + n ≤ d.e → 0 < n → Cu.ok { d with p := d.p + n } ∧ c.p ≤ d.p + n ∧ c.p < d.p + n := fun n hn h0 => ⟨⟨hn, hd.2⟩, by omega, by omega⟩
   by_cases b : fh d.get = true
   . rw [if_pos b]; exact ⟨(cC 1 (by omega) (by omega)).1, rfl, rfl, h0, by show c.p ≤ d.p + 1; omega, fun _ => by show c.p < d.p + 1; omega⟩
   rw [if_neg b] at h ⊢
   by_cases g : d.get.toNat = 34
   . rw [if_pos g] at h ⊢
     unfold held Cu.jo at h ⊢
     rw [if_neg (by omega), if_neg a, if_neg (by omega)] at h ⊢
     by_cases z : (eo (d.s.take d.e) (d.e - d.p) (d.p + 1) []).1 = 0
     . rw [if_pos z]
       have := Br _ _ _ _ z
       have hlen : (d.s.take d.e).length = d.e := hdl
       generalize eo (d.s.take d.e) (d.e - d.p) (d.p + 1) [] = R at *
       refine ⟨⟨by show R.2.1 ≤ d.e; omega, hd.2⟩, rfl, rfl, h0, by show c.p ≤ R.2.1; omega, fun _ => by show c.p < R.2.1; omega⟩
     . rw [if_neg z] at h; exact absurd h (fl _ z)
   rw [if_neg g] at h ⊢
   by_cases f : d.get.toNat = 45 ∨ cG d.get = true
   . rw [if_pos f] at h ⊢
     unfold held Cu.lY at h ⊢
     rw [if_neg (by omega)] at h ⊢
     by_cases z : (dI d.a9 d.p).2 = 0
     . rw [if_neg (by omega)]
       have q1 := I1 d.a9 d.p (by omega) z
       have q2 := I0 d.a9 d.p (by omega)
       generalize dI d.a9 d.p = R at *
       refine ⟨⟨by show R.1 ≤ d.e; omega, hd.2⟩, rfl, rfl, h0, by show c.p ≤ R.1; omega, fun _ => by show c.p < R.1; omega⟩
     . rw [if_pos z] at h; exact absurd h (fl _ z)
   rw [if_neg f] at h ⊢
   have hw : ∀ k, 0 < (spell k).length → (d.gJ k).1.c = 0 → (d.gJ k).1.ok ∧ (d.gJ k).1.s = d.s ∧ (d.gJ k).1.e = d.e ∧ c.c = 0 ∧ c.p ≤ (d.gJ k).1.p ∧ ((d.gJ k).2.k ≠ 0 → c.p < (d.gJ k).1.p) := fun k hsp h => by
    have hwe : ∀ (s : List UInt8) (i : Nat), gK d s i = 0 → s = [] ∨ d.p + i + s.length ≤ d.e := by
     intro s
     induction s with
     | nil => intro i _; exact .inl rfl
     | cons b s ih =>
       intro i hi
       unfold gK at hi
       split at hi
       . simp at hi
       . split at hi
         . simp at hi
         . right
           rcases ih (i + 1) hi with e | e
           . subst e; simp; omega
           . simp; omega
    unfold Cu.gJ at h ⊢
    by_cases z : gK d (spell k) 0 = 0
    . rw [if_neg (by omega)]
      refine ⟨⟨?_, hd.2⟩, rfl, rfl, h0, by show c.p ≤ d.p + (spell k).length; omega, fun hk0 => ?_⟩
      . rcases hwe _ _ z with e | e
        . rw [e]; exact hd.1
        . show d.p + (spell k).length ≤ d.e; omega
      . show c.p < d.p + (spell k).length; omega
    . rw [if_pos z] at h; exact absurd h (fl _ z)
   by_cases w : d.get.toNat = 116 ∨ d.get.toNat = 102
   . rw [if_pos w] at h ⊢
     refine hw _ ?_ h
     unfold spell
     rcases w with w | w <;> simp [w]
   rw [if_neg w] at h ⊢
   by_cases v : d.get.toNat = 110
   . rw [if_pos v] at h ⊢; exact hw _ (by decide) h
   rw [if_neg v] at h; exact absurd h (fl 3 (by decide))
 . rw [if_pos h0] at h; exact absurd h h0
def cE (t : Tk) : List UInt8 := if t.k.toNat = 115 then quote t.t else if t.k.toNat = 110 then t.t else if fh t.k = true then [t.k] else spell t.k
theorem yn (l : List V) : List.take (List.replicate (l.length : Int).toNat (V.int .u8 0)).length l ++ List.drop l.length (List.replicate (l.length : Int).toNat (V.int .u8 0)) = l := by simp
theorem yT (c : Bool) (l : List V) (k : UInt8) (t : List UInt8) (hp : l.length ≤ 100000000 ∧ t.length ≤ 10000000) : OK 32 ([.list c 1 l, .agg [bv k, .str t]]) ([]) (.buf 0) (some [.buf 1 0 (l ++ bl (cE ⟨k, t⟩))]) := by
 refine aI (C := cx [(31, oP), (48, qL), (42, qK)]) (aG ⟨rW, uI, uH, trivial⟩) (fn := Tryd.f32) rfl rfl rfl rfl fun hw hs => ?_
 have hk : k.toNat < 256 := k.toNat_lt
 have hkk : byte k.toNat = k := dx _
 have hq := nd t
 have hsp : (spell k).length ≤ 5 := by
  unfold spell; repeat' split
  all_goals simp
 repeat' ((conv => whnf); first | apply ai | (apply aj <;> intro h))
 all_goals try conv => whnf
 all_goals try (refine a8.mk ?_; try dsimp only)
 all_goals (try simp only [yn] at *)
 all_goals first | refine stay ?_ | omega | (simp (discharger := omega) only [wR]; omega) | (simp only [ax]; omega) | (simp (discharger := omega) [-List.getD_eq_getElem?_getD, wR] <;> omega) | skip
 all_goals (try simp only [hkk] at *)
 all_goals first
  | (refine ⟨by omega, ?_⟩; omega)
  | exact ⟨by omega, trivial⟩
  | (rw [cU]; omega)
  | skip
 all_goals
  have sT : fh k = true ↔ (k.toNat = 123 ∨ k.toNat = 125 ∨ k.toNat = 91 ∨ k.toNat = 93 ∨ k.toNat = 58 ∨ k.toNat = 44) := decide_eq_true_iff
  rw [show cE ⟨k, t⟩ = if k.toNat = 115 then quote t else if k.toNat = 110 then t else if fh k = true then [k] else spell k from rfl]
  repeat (first | rw [if_pos (by rw [sT]; omega)] | rw [if_neg (by rw [sT]; omega)] | rw [if_pos (by omega)] | rw [if_neg (by omega)])
  refine ab.mk [.swap 0 1] ?_ <;> (repeat' first | trivial | apply aa | apply ak)
 all_goals first
  | rfl
  | (unfold spell
     rw [if_neg (by omega), if_neg (by omega), if_neg (by omega)]
     simp [bl])
  | skip
theorem F6 (z : Nat) (k : UInt8) (t : List UInt8) (hp : t.length ≤ 10000000) : OK 32 ([.list true z [], .agg [bv k, .str t]]) ([]) (.buf 0) (some [.buf 1 0 (bl (cE ⟨k, t⟩))]) := by
 exact (yT true [] k t ⟨by simp, hp⟩).args (aM.cons (Wk.nil (.inl rfl)) (aM.refl _))
theorem F7 (l : List V) (k : UInt8) (t : List UInt8) (hp : l.length ≤ 100000000 ∧ t.length ≤ 10000000) : OK 32 ([.buf 0, .agg [bv k, .str t]]) ([.buf 1 0 l]) (.buf 0) (some [.buf 1 0 (l ++ bl (cE ⟨k, t⟩))]) := by
 refine aI (C := cx [(31, oP), (48, qL), (42, qK)]) (aG ⟨rW, uI, uH, trivial⟩) (fn := Tryd.f32) rfl rfl rfl rfl fun hw hs => ?_
 have hk : k.toNat < 256 := k.toNat_lt
 have hkk : byte k.toNat = k := dx _
 have hq := nd t
 have hsp : (spell k).length ≤ 5 := by
  unfold spell; repeat' split
  all_goals simp
 repeat' ((conv => whnf); first | apply ai | (apply aj <;> intro h))
 all_goals try conv => whnf
 all_goals try (refine a8.mk ?_; try dsimp only)
 all_goals (try simp only [yn] at *)
 all_goals first | refine stay ?_ | omega | (simp (discharger := omega) only [wR]; omega) | (simp only [ax]; omega) | (simp (discharger := omega) [-List.getD_eq_getElem?_getD, wR] <;> omega) | skip
 all_goals (try simp only [hkk] at *)
 all_goals first
  | (refine ⟨by omega, ?_⟩; omega)
  | exact ⟨by omega, trivial⟩
  | (rw [cU]; omega)
  | skip
 all_goals
  have sT : fh k = true ↔ (k.toNat = 123 ∨ k.toNat = 125 ∨ k.toNat = 91 ∨ k.toNat = 93 ∨ k.toNat = 58 ∨ k.toNat = 44) := decide_eq_true_iff
  rw [show cE ⟨k, t⟩ = if k.toNat = 115 then quote t else if k.toNat = 110 then t else if fh k = true then [k] else spell k from rfl]
  repeat (first | rw [if_pos (by rw [sT]; omega)] | rw [if_neg (by rw [sT]; omega)] | rw [if_pos (by omega)] | rw [if_neg (by omega)])
  refine ab.mk [.swap 0 2] ?_ <;> (repeat' first | trivial | apply aa | apply ak)
 all_goals first
  | rfl
  | (unfold spell
     rw [if_neg (by omega), if_neg (by omega), if_neg (by omega)]
     simp [bl])
  | skip
def wF : Sm := fun args σ => match args, σ with
 | [.list c 1 l, .agg [.int .u8 n_k, .str t]], [] => some ((0 ≤ n_k ∧ n_k ≤ 255) ∧ (l.length ≤ 100000000 ∧ t.length ≤ 10000000), .buf 0, some [.buf 1 0 (l ++ bl (cE ⟨(byte n_k), t⟩))])
 | [.list true z [], .agg [.int .u8 n_k, .str t]], [] => some ((0 ≤ n_k ∧ n_k ≤ 255) ∧ (t.length ≤ 10000000), .buf 0, some [.buf 1 0 (bl (cE ⟨(byte n_k), t⟩))])
 | [.buf 0, .agg [.int .u8 n_k, .str t]], [.buf 1 0 l] => some ((0 ≤ n_k ∧ n_k ≤ 255) ∧ (l.length ≤ 100000000 ∧ t.length ≤ 10000000), .buf 0, some [.buf 1 0 (l ++ bl (cE ⟨(byte n_k), t⟩))])
 | _, _ => none
theorem GL : aE 32 wF := by
 intro args sg pre x r he hp
 unfold wF at he
 split at he <;> cases he
 . rw [gI (hp).1]; exact yT (hp := hp.2) ..
 . rw [gI (hp).1]; exact F6 (hp := hp.2) ..
 . rw [gI (hp).1]; exact F7 (hp := hp.2) ..
end Go.Proofs.YtllncocibkgjkaaDoor
