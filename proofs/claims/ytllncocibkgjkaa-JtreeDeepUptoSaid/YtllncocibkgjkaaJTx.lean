/-
  A part of the proof.
-/
import Derived.Test.YtllncocibkgjkaaPHex
import Derived.Test.YtllncocibkgjkaaJTw
set_option linter.unusedSimpArgs false
set_option linter.unusedVariables false
set_option maxHeartbeats 4000000
namespace Go.Proofs.Ytllncocibkgjkaa
open Go Go.VG
set_option maxRecDepth 100000
theorem EH (s : List UInt8) (hs : s.length ≤ 100000000) : OK 39 [.str s] [] (.str (quote s)) none := by
 refine aC (C := cx [(73, wa)]) (ay ⟨GJ, trivial⟩) (fn := Try.f39) rfl rfl rfl rfl fun _ _ => ?_
 refine bn.mk Nat (fun i => i ≤ s.length) (fun i => ⟨45, [(0,.str s),(3,.str (34 :: cY (s.take i))),(4,.int .i64 i)], [], []⟩) (fun i => s.length - i) [] 0 (Nat.zero_le _) ?_ (fun i hi _ _ => ?_)
 . refine Go.VG.Sub.mk rfl ?_ ?_ ?_ ?_ <;> (repeat' first | trivial)
 have hcut : (s.take (IntKind.i64.wrap ((i : Int) + 1)).toNat).drop ((i : Int).toNat) = if i < s.length then [s.getD i 0] else (s.take (IntKind.i64.wrap ((i : Int) + 1)).toNat).drop ((i : Int).toNat) := by
  split
  . rw [show (IntKind.i64.wrap ((i : Int) + 1)).toNat = i + 1 by (simp (discharger := omega) only [wR]; omega)]; exact qQ 0 (by assumption)
  . rfl
 have hq := v8 (s.take i)
 rw [List.length_take] at hq
 repeat' ((conv => whnf); first | apply al | (apply ao <;> intro h) | with_reducible refine eo ?_ fun hc => ?_)
 all_goals try conv => whnf
 all_goals try (refine ae.mk ?_; try dsimp only)
 all_goals (try rw [hcut, if_pos (by omega)])
 all_goals first | refine stay ?_ | omega | (simp (discharger := omega) only [wR]; omega) | (simp only [d7, pg]; omega) | skip
 all_goals first
  | (exfalso; omega)
  | (refine ⟨[], i + 1, by omega, ?_, by omega⟩
     refine Go.VG.Sub.mk rfl ?_ ?_ ?_ ?_ <;> (repeat' first | trivial | apply aj | apply gb | apply aQ | apply eF)
     . rw [B1 (by omega)]
       unfold ir
       first
       | (rw [if_pos (by omega)]; simp; done)
       | (rw [if_neg (by omega), if_pos (by omega)]; simp; done)
       | (rw [if_neg (by omega), if_neg (by omega)]; simp; done)
     . (simp (discharger := omega) only [wR]; omega)
    )
  | skip
 refine a8.mk [] ?_ <;> (repeat' first | trivial | apply aj | apply gb | apply eF)
 rw [List.take_of_length_le (by omega)]
 rfl
def sl : Sm := fun args σ => match args, σ with
 | [.str s], [] => some (s.length ≤ 100000000, .str (quote s), none)
 | _, _ => none
theorem zE : aD 39 sl := by
 intro args sg pre x r he hp
 unfold sl at he
 split at he <;> cases he
 exact EH _ hp
theorem DK (l : List V) (t : List UInt8) (h : l.length + t.length ≤ 4000000000) : OK 72 [.str t, .ptr 0 0] [.cells [.buf 1], .buf 1 0 l] (.tuple []) (some [.cells [.buf 1], .buf 1 0 (l ++ bl t)]) := by
 refine aC (C := cx []) (ay trivial) (fn := Try.f72) rfl rfl rfl rfl fun _ _ => ?_
 repeat' ((conv => whnf); apply al)
 all_goals try conv => whnf
 all_goals try (refine ae.mk ?_; try dsimp only)
 all_goals first | refine stay ?_ | (simp only [d7, pg]; omega) | skip
 refine a8.mk [] ?_ <;> (repeat' first | trivial)
def vw : Sm := fun args σ => match args, σ with
 | [.str t, .ptr 0 0], [.cells [.buf 1], .buf 1 0 l] => some (l.length + t.length ≤ 4000000000, .tuple [], some [.cells [.buf 1], .buf 1 0 (l ++ bl t)])
 | _, _ => none
theorem Ga : aD 72 vw := by
 intro args sg pre x r he hp
 unfold vw at he
 split at he <;> cases he
 exact DK _ _ hp
theorem DX (s : List UInt8) (l : List V) (hs : s.length ≤ 100000000) (hl : l.length ≤ 3000000000) : OK 71 [.str s, .func (.func 72) [] [.ptr 0 0]] [.cells [.buf 1], .buf 1 0 l] (.tuple []) (some [.cells [.buf 1], .buf 1 0 (l ++ bl (quote s))]) := by
 refine aC (C := cx [(72, vw), (91, vE)]) (ay ⟨Ga, Gi, trivial⟩) (fn := Try.f71) rfl rfl rfl rfl fun _ _ => ?_
 repeat' ((conv => whnf); apply al)
 all_goals try conv => whnf
 all_goals try (refine ae.mk ?_; try dsimp only)
 all_goals first | refine stay ?_ | (simp only [d7, pg]; omega) | skip
 refine bn.mk Nat (fun i => i ≤ s.length) (fun i => ⟨53, [(0,.str s),(1, .func (.func 72) [] [.ptr 0 0]),(9, .int .i64 s.length),(10,.int .i64 i)], [.cells [.buf 1], .buf 1 0 (l ++ bl (34 :: cY (s.take i)))], [1]⟩) (fun i => s.length - i) [] 0 (Nat.zero_le _) ?_ (fun i hi _ _ => ?_)
 . refine Go.VG.Sub.mk rfl ?_ ?_ ?_ ?_ <;> (repeat' first | trivial)
 have hcut : (s.take (IntKind.i64.wrap ((i : Int) + 1)).toNat).drop ((i : Int).toNat) = if i < s.length then [s.getD i 0] else (s.take (IntKind.i64.wrap ((i : Int) + 1)).toNat).drop ((i : Int).toNat) := by
  split
  . rw [show (IntKind.i64.wrap ((i : Int) + 1)).toNat = i + 1 by (simp (discharger := omega) only [wR]; omega)]; exact qQ 0 (by assumption)
  . rfl
 have hq := v8 (s.take i)
 rw [List.length_take] at hq
 repeat' ((conv => whnf); first | apply al | (apply ao <;> intro h) | with_reducible refine eo ?_ fun hc => ?_)
 all_goals try conv => whnf
 all_goals try (refine ae.mk ?_; try dsimp only)
 all_goals (try rw [hcut, if_pos (by omega)])
 all_goals first | refine stay ?_ | omega | (simp (discharger := omega) only [wR]; omega) | (simp only [d7, pg]; omega) | skip
 all_goals first
  | (refine ⟨[], i + 1, by omega, ?_, by omega⟩
     refine Go.VG.Sub.mk rfl ?_ ?_ ?_ ?_ <;> (repeat' first | trivial | apply aj | apply aQ | apply aV)
     . (simp (discharger := omega) only [wR]; omega)
     . rw [B1 (by omega), List.append_assoc, ← eE]
       refine congrArg (fun x => l ++ bl x) ?_
       unfold ir
       first
       | (rw [if_pos (by omega)]; simp; done)
       | (rw [if_neg (by omega), if_pos (by omega)]; simp; done)
       | (rw [if_neg (by omega), if_neg (by omega)]; simp; done)
    )
  | skip
 refine a8.mk [] ?_ <;> (repeat' first | trivial | apply aj | apply aV)
 rw [List.take_of_length_le (by omega), List.append_assoc, ← eE]
 rfl
def sj : Sm := fun args σ => match args, σ with
 | [.str s, .func (.func 72) [] [.ptr 0 0]], [.cells [.buf 1], .buf 1 0 l] => some (s.length ≤ 100000000 ∧ l.length ≤ 3000000000, .tuple [], some [.cells [.buf 1], .buf 1 0 (l ++ bl (quote s))])
 | _, _ => none
theorem zC : aD 71 sj := by
 intro args sg pre x r he hp
 unfold sj at he
 split at he <;> cases he
 exact DX _ _ hp.1 hp.2
theorem yF (s : List UInt8) (l : List V) (hs : s.length ≤ 100000000) (hl : l.length ≤ 3000000000) : OK 36 [.buf 0, .str s] [.buf 1 0 l] (.buf 0) (some [.buf 1 0 (l ++ bl (quote s))]) := by
 refine aC (C := cx [(71, sj)]) (ay ⟨zC, trivial⟩) (fn := Try.f36) rfl rfl rfl rfl fun _ _ => ?_
 repeat' ((conv => whnf); apply al)
 all_goals try conv => whnf
 all_goals try (refine ae.mk ?_; try dsimp only)
 all_goals first | refine stay ?_ | (simp (discharger := omega) only [wR]; omega) | (simp (discharger := omega) [-List.getD_eq_getElem?_getD, wR] <;> omega) | skip
 refine a8.mk [.swap 0 1] ?_ <;> (repeat' first | trivial | apply aj | apply aV)
 simp
theorem El (c : Bool) (l : List V) (s : List UInt8) (hs : s.length ≤ 100000000) (hl : l.length ≤ 3000000000) : OK 36 [.list c 1 l, .str s] [] (.buf 0) (some [.buf 1 0 (l ++ bl (quote s))]) := by
 refine aC (C := cx [(71, sj)]) (ay ⟨zC, trivial⟩) (fn := Try.f36) rfl rfl rfl rfl fun _ _ => ?_
 repeat' ((conv => whnf); apply al)
 all_goals try conv => whnf
 all_goals try (refine ae.mk ?_; try dsimp only)
 all_goals first | refine stay ?_ | (simp (discharger := omega) only [wR]; omega) | (simp (discharger := omega) [-List.getD_eq_getElem?_getD, wR] <;> omega) | skip
 refine a8.mk [] ?_ <;> (repeat' first | trivial | apply aj | apply aV)
 simp
def q9 : Sm := fun args σ => match args, σ with
 | [.buf 0, .str s], [.buf 1 0 l] => some (s.length ≤ 100000000 ∧ l.length ≤ 3000000000, .buf 0, some [.buf 1 0 (l ++ bl (quote s))])
 | [.list true _ [], .str s], [] => some (s.length ≤ 100000000, .buf 0, some [.buf 1 0 (bl (quote s))])
 | [.list _ 1 l, .str s], [] => some (s.length ≤ 100000000 ∧ l.length ≤ 3000000000, .buf 0, some [.buf 1 0 (l ++ bl (quote s))])
 | _, _ => none
theorem ug : aD 36 q9 := by
 intro args sg pre x r he hp
 unfold q9 at he
 split at he <;> cases he
 . exact yF _ _ hp.1 hp.2
 . exact eB.nil 0 _ 0 rfl (yF _ [] hp (by simp))
 . exact El _ _ _ hp.1 hp.2
end Go.Proofs.Ytllncocibkgjkaa
namespace Go.Proofs.Ytllncocibkgjkaa
open Go Go.VG
set_option maxRecDepth 100000
abbrev vT (t : Tk) : V := .agg (eT t)
def lT (s : List UInt8) : List Tk × Int := qE (s.length + 1) (.new s) []
theorem uM (s : List UInt8) : (Cu.new s).ok := ⟨Nat.zero_le _, Nat.le_refl _⟩
theorem Be (t : List UInt8) : ∀ (n i : Nat) (o : List UInt8), (bR t n i o).1 = 0 → i < (bR t n i o).2.1 ∧ (bR t n i o).2.1 ≤ t.length
 | 0, _, _, h => by rw [bR] at h; simp at h
 | n + 1, i, o, h => by
   rw [bR] at h ⊢
   by_cases a : t.length ≤ i
   . rw [if_pos a] at h; simp at h
   rw [if_neg a] at h ⊢
   by_cases b : (t.getD i 0).toNat = 34
   . rw [if_pos b]; exact ⟨by show i < i + 1; omega, by show i + 1 ≤ _; omega⟩
   rw [if_neg b] at h ⊢
   by_cases c : (bm t i).2.2 ≠ 0
   . rw [if_pos c] at h; exact absurd h c
   rw [if_neg c] at h ⊢
   have h1 := Be t n (bm t i).2.1.toNat _ h
   have h2 := AR t i (by omega)
   omega
theorem uJ (t : List UInt8) (i : Nat) (h : (cv t i).2 = 0) : i < (cv t i).1 := by
 revert h; unfold cv; repeat' split
 all_goals (intro h; first | (dsimp only; omega) | (exfalso; simp at h))
theorem AE (t : List UInt8) (i : Nat) (hi : i ≤ t.length) (h : (cw t i).2 = 0) : i < (cw t i).1 := by
 have h1 := pY t i 45 45 hi
 have w : (bp t i).2 = 0 → i < (bp t i).1 ∧ (bp t i).1 ≤ t.length := by
  unfold bp; split
  . rename_i q; have := (iN.1 q).1; intro _; dsimp only; omega
  . intro h; have := uJ t _ h; have := mB t _ h1.2; omega
 have b : (cn t (bp t i)).2 = 0 → i < (cn t (bp t i)).1 ∧ (cn t (bp t i)).1 ≤ t.length := by
  generalize bp t i = x at *
  unfold cn; split
  . rename_i q; intro h; have := (iN.1 q.2).1; have := w q.1; have := uJ t _ h; have := mB t (x.1 + 1) (by omega); omega
  . exact w
 revert h
 unfold cw
 generalize cn t (bp t i) = x at *
 unfold gY; split
 . rename_i q; intro h; have := b q.1; have := (iN.1 q.2).1; have := pY t (x.1 + 1) 43 45 (by omega); have := uJ t _ h; omega
 . exact fun h => (b h).1
theorem pJ {c : Cu} (hk : c.ok) (h : c.aJ.1.c = 0) : c.aJ.1.ok ∧ c.aJ.1.s = c.s ∧ c.aJ.1.e = c.e ∧ c.c = 0 ∧ c.p ≤ c.aJ.1.p ∧ (c.aJ.2.k ≠ 0 → c.p < c.aJ.1.p) := by
 have hl := ey hk
 unfold Cu.aJ at h ⊢
 by_cases h0 : c.c = 0
 . rw [if_neg (by omega)] at h ⊢
   have hr := pU bO c.a9 c.p
   have hp := hk.1
   have hd : Cu.ok { c with p := cm bO c.a9 c.p } := ⟨by show cm bO c.a9 c.p ≤ c.e; omega, hk.2⟩
   have hr1 : c.p ≤ ({ c with p := cm bO c.a9 c.p } : Cu).p := hr.1
   have e1 : ({ c with p := cm bO c.a9 c.p } : Cu).s = c.s := rfl
   have e2 : ({ c with p := cm bO c.a9 c.p } : Cu).e = c.e := rfl
   have e3 : ({ c with p := cm bO c.a9 c.p } : Cu).c = 0 := h0
   generalize ({ c with p := cm bO c.a9 c.p } : Cu) = d at *
   have hdl := ey hd
   have fl : ∀ k : Int, k ≠ 0 → (d.fail k).c ≠ 0 := fun k hk => by rw [fI _ e3]; exact hk
   rw [← e1, ← e2]
   unfold Cu.ew at h ⊢
   by_cases a : d.p = d.e
   . rw [if_pos a]; exact ⟨hd, rfl, rfl, h0, hr1, fun k => absurd rfl k⟩
   rw [if_neg a] at h ⊢
   have hlt : d.p < d.e := by have := hd.1; omega
   have bW : ∀ n, d.p + n ≤ d.e → 0 < n → Cu.ok { d with p := d.p + n } ∧ c.p ≤ d.p + n ∧ c.p < d.p + n := fun n hn h0 => ⟨⟨hn, hd.2⟩, by omega, by omega⟩
   by_cases b : bB d.get = true
   . rw [if_pos b]; exact ⟨(bW 1 (by omega) (by omega)).1, rfl, rfl, h0, by show c.p ≤ d.p + 1; omega, fun _ => by show c.p < d.p + 1; omega⟩
   rw [if_neg b] at h ⊢
   by_cases g : d.get.toNat = 34
   . rw [if_pos g] at h ⊢
     unfold held Cu.dr at h ⊢
     rw [if_neg (by omega), if_neg a, if_neg (by omega)] at h ⊢
     by_cases z : (bR (d.s.take d.e) (d.e - d.p) (d.p + 1) []).1 = 0
     . rw [if_pos z]
       have := Be _ _ _ _ z
       have hlen : (d.s.take d.e).length = d.e := hdl
       generalize bR (d.s.take d.e) (d.e - d.p) (d.p + 1) [] = R at *
       refine ⟨⟨by show R.2.1 ≤ d.e; omega, hd.2⟩, rfl, rfl, h0, by show c.p ≤ R.2.1; omega, fun _ => by show c.p < R.2.1; omega⟩
     . rw [if_neg z] at h; exact absurd h (fl _ z)
   rw [if_neg g] at h ⊢
   by_cases f : d.get.toNat = 45 ∨ c9 d.get = true
   . rw [if_pos f] at h ⊢
     unfold held Cu.fj at h ⊢
     rw [if_neg (by omega)] at h ⊢
     by_cases z : (cw d.a9 d.p).2 = 0
     . rw [if_neg (by omega)]
       have q1 := AE d.a9 d.p (by omega) z
       have q2 := rN d.a9 d.p (by omega)
       generalize cw d.a9 d.p = R at *
       refine ⟨⟨by show R.1 ≤ d.e; omega, hd.2⟩, rfl, rfl, h0, by show c.p ≤ R.1; omega, fun _ => by show c.p < R.1; omega⟩
     . rw [if_pos z] at h; exact absurd h (fl _ z)
   rw [if_neg f] at h ⊢
   have hw : ∀ k, 0 < (spell k).length → (d.cr k).1.c = 0 → (d.cr k).1.ok ∧ (d.cr k).1.s = d.s ∧ (d.cr k).1.e = d.e ∧ c.c = 0 ∧ c.p ≤ (d.cr k).1.p ∧ ((d.cr k).2.k ≠ 0 → c.p < (d.cr k).1.p) := fun k hsp h => by
    have hwe : ∀ (s : List UInt8) (i : Nat), cP d s i = 0 → s = [] ∨ d.p + i + s.length ≤ d.e := by
     intro s
     induction s with
     | nil => intro i _; exact .inl rfl
     | cons b s ih =>
       intro i hi
       unfold cP at hi
       split at hi
       . simp at hi
       . split at hi
         . simp at hi
         . right
           rcases ih (i + 1) hi with e | e
           . subst e; simp; omega
           . simp; omega
    unfold Cu.cr at h ⊢
    by_cases z : cP d (spell k) 0 = 0
    . rw [if_neg (by omega)]
      refine ⟨⟨?_, hd.2⟩, rfl, rfl, h0, by show c.p ≤ d.p + (spell k).length; omega, fun hk0 => ?_⟩
      . rcases hwe _ _ z with e | e
        . rw [e]; exact hd.1
        . show d.p + (spell k).length ≤ d.e; omega
      . show c.p < d.p + (spell k).length; omega
    . rw [if_pos z] at h; exact absurd h (fl _ z)
   by_cases w : d.get.toNat = 116 ∨ d.get.toNat = 102
   . rw [if_pos w] at h ⊢
     refine hw _ ?_ h
     unfold spell
     rcases w with w | w <;> simp [w]
   rw [if_neg w] at h ⊢
   by_cases v : d.get.toNat = 110
   . rw [if_pos v] at h ⊢; exact hw _ (by decide) h
   rw [if_neg v] at h; exact absurd h (fl 3 (by decide))
 . rw [if_pos h0] at h; exact absurd h h0
theorem KC (s : List UInt8) (hp : s.length ≤ 10000000) : OK 11 ([.str s]) ([]) (.tuple [.buf 0, .int .i64 (lT s).2]) (some [.buf 2 0 ((lT s).1.map vT)]) := by
 refine aC (C := cx [(17, si), (18, mN), (21, iS)]) (ay ⟨zB, ph, jE, trivial⟩) (fn := Try.f11) rfl rfl rfl rfl fun hw hs => ?_
 repeat' ((conv => whnf); apply al)
 all_goals try conv => whnf
 all_goals try (refine ae.mk ?_; try dsimp only)
 all_goals (try simp only [aR] at *)
 all_goals try refine stay ?_
 refine bn.mk (Nat × Cu × List Tk) (fun | (n, d, l) => d.ok ∧ d.s = s ∧ d.c = 0 ∧ d.e - d.p < n ∧ l.length ≤ d.p ∧ qE n d l = lT s) (fun | (n, d, l) => ⟨24, [(4, .ptr 0 0), (5, .buf 1)], [.cells (eC d), .buf 2 0 (l.map vT)], [1]⟩) (fun x => x.1) [.tm 5 2] (s.length + 1, .new s, []) ⟨uM s, rfl, rfl, by show s.length - 0 < s.length + 1; omega, by simp, rfl⟩ ?_ (fun ⟨n, d, l⟩ ⟨hd, hds, hd0, hn, hl, he⟩ _ _ => ?_)
 . refine Go.VG.Sub.mk rfl ?_ ?_ ?_ ?_ <;> (repeat' first | trivial)
 obtain ⟨n, rfl⟩ : ∃ m, n = m + 1 := ⟨n - 1, by omega⟩
 rw [qE] at he
 obtain ⟨x1, x2, x3⟩ := mC hd
 have on := fun h => pJ hd h
 have hsl : d.s.length ≤ 10000000 := by rw [hds]; exact hp
 have hk : d.next.2.k.toNat < 256 := d.next.2.k.toNat_lt
 have hp1 := hd.1
 have hp2 := hd.2
 repeat' ((conv => whnf); first | apply al | apply aZ | (apply ao <;> intro h))
 all_goals try conv => whnf
 all_goals try (refine ae.mk ?_; try dsimp only)
 all_goals (try simp only [aR] at *)
 all_goals first | refine stay ?_ | trivial | (simp (discharger := omega) [-List.getD_eq_getElem?_getD, wR] <;> omega) | skip
 . have z : d.aJ.1.c = 0 := by rw [← x2]; assumption
   have k0 : d.aJ.2.k = 0 := by rw [← x1]; exact UInt8.toNat_inj.1 (by show _ = 0; omega)
   rw [if_neg (by omega), if_pos k0] at he
   rw [← he]
   refine a8.mk [.swap 0 1] ?_ <;> (repeat' first | trivial)
 . have z : d.aJ.1.c = 0 := by rw [← x2]; assumption
   have k0 : d.aJ.2.k ≠ 0 := fun e => by
    rw [← x1] at e
    exact absurd (show ((d.next.2.k.toNat : Nat) : Int) = 0 by rw [e]; rfl) (by assumption)
   obtain ⟨o1, o2, o3, o4, o5, o6⟩ := on z
   have o6 := o6 k0
   have o7 := o1.1
   rw [if_neg (by omega), if_neg k0] at he
   refine ⟨[], (n, d.aJ.1, l ++ [d.aJ.2]), ⟨o1, o2.trans hds, z, by show d.aJ.1.e - d.aJ.1.p < n; omega, by show (l ++ [d.aJ.2]).length ≤ d.aJ.1.p; rw [List.length_append, List.length_singleton]; omega, he⟩, ?_, by show n < n + 1; omega⟩
   rw [← x3 z, ← x1]
   refine Go.VG.Sub.mk rfl ?_ ?_ ?_ ?_ <;> (repeat' first | trivial | apply aj | apply aV)
   simp
 . have z : d.aJ.1.c ≠ 0 := by rw [← x2]; assumption
   rw [if_pos z] at he
   rw [← he, ← x2]
   refine a8.mk [.tm 2 2, .swap 0 3] ?_ <;> (repeat' first | trivial)
def sm_jtAll : Sm := fun args σ => match args, σ with
 | [.str s], [] => some (s.length ≤ 10000000, .tuple [.buf 0, .int .i64 (lT s).2], some [.buf 2 0 ((lT s).1.map vT)])
 | _, _ => none
def bI (t : Tk) : List UInt8 := if t.k.toNat = 115 then quote t.t else if t.k.toNat = 110 then t.t else if bB t.k = true then [t.k] else spell t.k
theorem K9 (t : Tk) : (bI t).length ≤ 6 * t.t.length + 5 := by
 have := rU t.t
 unfold bI spell; repeat' split
 all_goals first | omega | simp
theorem xX (l : List V) : List.take (List.replicate (l.length : Int).toNat (V.int .u8 0)).length l ++ List.drop l.length (List.replicate (l.length : Int).toNat (V.int .u8 0)) = l := by simp
theorem yG (c : Bool) (l : List V) (k : UInt8) (t : List UInt8) (hp : l.length ≤ 100000000 ∧ t.length ≤ 10000000) : OK 12 ([.list c 1 l, .agg [bv k, .str t]]) ([]) (.buf 0) (some [.buf 1 0 (l ++ bl (bI ⟨k, t⟩))]) := by
 refine aC (C := cx [(36, q9), (37, qb), (38, qa)]) (ay ⟨ug, ui, uh, trivial⟩) (fn := Try.f12) rfl rfl rfl rfl fun hw hs => ?_
 have hk : k.toNat < 256 := k.toNat_lt
 have hkk : byte k.toNat = k := bH _
 have hq := rU t
 have hsp : (spell k).length ≤ 5 := by
  unfold spell; repeat' split
  all_goals simp
 repeat' ((conv => whnf); first | apply al | (apply ao <;> intro h))
 all_goals try conv => whnf
 all_goals try (refine ae.mk ?_; try dsimp only)
 all_goals (try simp only [xX] at *)
 all_goals first | refine stay ?_ | omega | (simp (discharger := omega) only [wR]; omega) | (simp only [d7]; omega) | (simp (discharger := omega) [-List.getD_eq_getElem?_getD, wR] <;> omega) | skip
 all_goals (try simp only [hkk] at *)
 all_goals first
  | (refine ⟨by omega, ?_⟩; omega)
  | exact ⟨by omega, trivial⟩
  | (rw [ea]; omega)
  | skip
 all_goals
  have sT : bB k = true ↔ (k.toNat = 123 ∨ k.toNat = 125 ∨ k.toNat = 91 ∨ k.toNat = 93 ∨ k.toNat = 58 ∨ k.toNat = 44) := decide_eq_true_iff
  rw [show bI ⟨k, t⟩ = if k.toNat = 115 then quote t else if k.toNat = 110 then t else if bB k = true then [k] else spell k from rfl]
  repeat (first | rw [if_pos (by rw [sT]; omega)] | rw [if_neg (by rw [sT]; omega)] | rw [if_pos (by omega)] | rw [if_neg (by omega)])
  refine a8.mk [.swap 0 1] ?_ <;> (repeat' first | trivial | apply aj | apply aV)
 all_goals first
  | rfl
  | (unfold spell
     rw [if_neg (by omega), if_neg (by omega), if_neg (by omega)]
     simp [bl])
  | skip
theorem Es (z : Nat) (k : UInt8) (t : List UInt8) (hp : t.length ≤ 10000000) : OK 12 ([.list true z [], .agg [bv k, .str t]]) ([]) (.buf 0) (some [.buf 1 0 (bl (bI ⟨k, t⟩))]) := by
 exact (yG true [] k t ⟨by simp, hp⟩).args (iz.cons (Wk.nil (.inl rfl)) (iz.refl _))
theorem Et (l : List V) (k : UInt8) (t : List UInt8) (hp : l.length ≤ 100000000 ∧ t.length ≤ 10000000) : OK 12 ([.buf 0, .agg [bv k, .str t]]) ([.buf 1 0 l]) (.buf 0) (some [.buf 1 0 (l ++ bl (bI ⟨k, t⟩))]) := by
 refine aC (C := cx [(36, q9), (37, qb), (38, qa)]) (ay ⟨ug, ui, uh, trivial⟩) (fn := Try.f12) rfl rfl rfl rfl fun hw hs => ?_
 have hk : k.toNat < 256 := k.toNat_lt
 have hkk : byte k.toNat = k := bH _
 have hq := rU t
 have hsp : (spell k).length ≤ 5 := by
  unfold spell; repeat' split
  all_goals simp
 repeat' ((conv => whnf); first | apply al | (apply ao <;> intro h))
 all_goals try conv => whnf
 all_goals try (refine ae.mk ?_; try dsimp only)
 all_goals (try simp only [xX] at *)
 all_goals first | refine stay ?_ | omega | (simp (discharger := omega) only [wR]; omega) | (simp only [d7]; omega) | (simp (discharger := omega) [-List.getD_eq_getElem?_getD, wR] <;> omega) | skip
 all_goals (try simp only [hkk] at *)
 all_goals first
  | (refine ⟨by omega, ?_⟩; omega)
  | exact ⟨by omega, trivial⟩
  | (rw [ea]; omega)
  | skip
 all_goals
  have sT : bB k = true ↔ (k.toNat = 123 ∨ k.toNat = 125 ∨ k.toNat = 91 ∨ k.toNat = 93 ∨ k.toNat = 58 ∨ k.toNat = 44) := decide_eq_true_iff
  rw [show bI ⟨k, t⟩ = if k.toNat = 115 then quote t else if k.toNat = 110 then t else if bB k = true then [k] else spell k from rfl]
  repeat (first | rw [if_pos (by rw [sT]; omega)] | rw [if_neg (by rw [sT]; omega)] | rw [if_pos (by omega)] | rw [if_neg (by omega)])
  refine a8.mk [.swap 0 2] ?_ <;> (repeat' first | trivial | apply aj | apply aV)
 all_goals first
  | rfl
  | (unfold spell
     rw [if_neg (by omega), if_neg (by omega), if_neg (by omega)]
     simp [bl])
  | skip
def vW : Sm := fun args σ => match args, σ with
 | [.list c 1 l, .agg [.int .u8 n_k, .str t]], [] => some ((0 ≤ n_k ∧ n_k ≤ 255) ∧ (l.length ≤ 100000000 ∧ t.length ≤ 10000000), .buf 0, some [.buf 1 0 (l ++ bl (bI ⟨(byte n_k), t⟩))])
 | [.list true z [], .agg [.int .u8 n_k, .str t]], [] => some ((0 ≤ n_k ∧ n_k ≤ 255) ∧ (t.length ≤ 10000000), .buf 0, some [.buf 1 0 (bl (bI ⟨(byte n_k), t⟩))])
 | [.buf 0, .agg [.int .u8 n_k, .str t]], [.buf 1 0 l] => some ((0 ≤ n_k ∧ n_k ≤ 255) ∧ (l.length ≤ 100000000 ∧ t.length ≤ 10000000), .buf 0, some [.buf 1 0 (l ++ bl (bI ⟨(byte n_k), t⟩))])
 | _, _ => none
theorem GA : aD 12 vW := by
 intro args sg pre x r he hp
 unfold vW at he
 split at he <;> cases he
 . rw [da (hp).1]; exact yG (hp := hp.2) ..
 . rw [da (hp).1]; exact Es (hp := hp.2) ..
 . rw [da (hp).1]; exact Et (hp := hp.2) ..
end Go.Proofs.Ytllncocibkgjkaa
