/-
  A part of the proof.
-/
import Derived.Test.YtipejldppicijaaGreatDoorGH
set_option linter.unusedSimpArgs false
set_option linter.unusedVariables false
set_option maxHeartbeats 4000000
namespace Go.Proofs.YtipejldppicijaaGreatDoor
open Go Go.VG
set_option maxRecDepth 100000
abbrev ma (l : List (List UInt8)) : V := .list false 1 (l.map V.str)
abbrev nn (l : List Tg) : V := .list false 7 (l.map eR)
theorem MM {l : List Fd} {i : Nat} (h : i < l.length) : l.take (i + 1) = l.take i ++ [l.getD i default] := by
 rw [List.take_add_one, List.getD_eq_getElem?_getD, List.getElem?_eq_getElem h]; rfl
def mI (l : List Fd) : V := if iC l = true then .tuple [ma (l.map Fd.raw), .int .i64 0] else .tuple [.list true 0 [], .int .i64 7]
theorem Ls {l : List Fd} {id d : Int} {k : List Fd} {f : Fd} (h : bI k id 9 = some f) (e : (cr d f.raw).1 = 0) (hl : l = (cr d f.raw).2) : Wk (mI l) (.tuple [ma (strs k id d).1, .int .i64 (strs k id d).2]) := by
 subst hl
 unfold mI
 cases g : iC (cr d f.raw).2 with
 | true => rw [if_pos rfl, CZ h e g]; exact Wk.refl _
 | false => rw [if_neg (by decide), Mz h e g]; exact Wk.tuple (aq.cons (Wk.nil (.inl rfl)) (aq.refl _))
theorem zV (d : Int) (s : List UInt8) : (cr d s).2.length ≤ 2147483647 := by
 unfold cr
 split
 . exact Nat.zero_le _
 . have h := ve (d := (31 - d).toNat) (k := (Cu.new s).bf.1.2) (Cu.new s).bf.1.1.toNat 0 (Cu.new s).bf.2 []
   have hb := vE (.new s)
   unfold fj
   split
   . exact Nat.zero_le _
   . rw [List.length_nil] at h
     dsimp only
     omega
theorem GG (l : List Fd) (id d : Int) (hp : 0 ≤ d ∧ ∀ f ∈ l, f.raw.length ≤ 1000000000) (f : Fd) (hL : bI l id 9 = some f) (hc : (cr d f.raw).1 = 0) : OK 14 [dT l, .int .i64 id, .int .i64 d] [] (mI (cr d f.raw).2) none := by
 refine af (C := cx [(29, mP), (42, sU)]) (ah ⟨pJ, Ao, trivial⟩) (fn := Tryz.f14) rfl rfl rfl rfl fun hw _ => ?_
 have hfl : f.raw.length ≤ 1000000000 := hp.2 f (sa (Nat.le_refl _) hL).1
 have hrl := zV d f.raw
 repeat' ((conv => whnf); first | apply a9 | apply aJ | ((first | apply al | apply bu) <;> intro h))
 all_goals try conv => whnf
 all_goals try (refine a8.mk ?_; try dsimp only)
 all_goals (try simp only [db, hL, hc, d5, Option.getD_some, Option.isSome_some] at *)
 all_goals first
  | exact ⟨trivial, trivial⟩
  | exact ⟨dF _, trivial⟩
  | exact ⟨hp.1, hfl⟩
  | (exfalso; simp_all; done)
  | skip
 generalize (cr d f.raw).2 = L at *
 refine bd.mk Nat (fun i => i ≤ L.length ∧ ∀ j, j < i → (L.getD j default).k = 12) (fun i => ⟨49, [(33, .list false 6 (L.map cQ)), (34, .int .i64 L.length), (35, .int .i64 i), (12, .buf 1)], [.cells (iF f), .buf 1 0 (((L.take i).map Fd.raw).map V.str)], [1]⟩) (fun i => L.length - i) [.tm 12 1] 0 ⟨Nat.zero_le _, fun j hj => absurd hj (Nat.not_lt_zero _)⟩ ?_ (fun i ⟨hi, hI⟩ hT _ => ?_)
 . refine Go.VG.Sub.mk rfl ?_ ?_ ?_ ?_ <;> (repeat' first | trivial | apply ab | apply au)
   all_goals first
    | rfl
    | (simp; done)
 have hT : (V.list false 6 (L.map cQ)).wf := hT.1
 have hLl : L.length ≤ 9223372036854775807 := by have := hT.1; rw [List.length_map] at this; exact this
 have hst := fun h => MM (l := L) (i := i) h
 repeat' ((conv => whnf); first | apply a9 | apply aJ | (apply al <;> intro h) | with_reducible apply jd)
 all_goals try conv => whnf
 all_goals try (refine a8.mk ?_; try dsimp only)
 all_goals (try simp only [List.length_map] at *)
 all_goals first | refine stay ?_ | omega | (simp only [aW]; omega) | skip
 . refine ⟨[], i + 1, ⟨by omega, fun j hj => by
     rcases Nat.lt_or_ge j i with q | q
     . exact hI j q
     . rw [show j = i by omega]; assumption⟩, ?_, by omega⟩
   refine Go.VG.Sub.mk rfl ?_ ?_ ?_ ?_ <;> (repeat' first | trivial | apply ab | apply au | apply aE)
   . (simp (discharger := omega) only [wR]; omega)
   . rw [hst (by omega)]; simp
 . have e : mI L = .tuple [.list true 0 [], .int .i64 7] := by
     unfold mI
     rw [DQ (i := i) (by omega) (by assumption), if_neg (by decide)]
   rw [e]
   refine a7.mk [] ?_ <;> (repeat' first | trivial)
 . have e : mI L = .tuple [ma (L.map Fd.raw), .int .i64 0] := by
     unfold mI
     rw [DR (fun j hj => hI j (by omega)), if_pos rfl]
   rw [e]
   refine a7.mk [.bH 1] ?_ <;> (repeat' first | trivial | apply ab | apply cJ | apply bZ | apply aM)
   rw [show i = L.length by omega, List.take_length]
theorem GI (l : List Fd) (id d : Int) (hp : bI l id 9 = none) : OK 14 ([dT l, .int .i64 id, .int .i64 d]) ([]) (.tuple [.list true 0 [], .int .i64 0]) (none) := by
 refine af (C := cx [(29, mP)]) (ah ⟨pJ, trivial⟩) (fn := Tryz.f14) rfl rfl rfl rfl fun hw hs => ?_
 have hL := hp
 repeat' ((conv => whnf); first | apply a9 | apply aJ | (apply bu <;> intro h))
 all_goals try conv => whnf
 all_goals try (refine a8.mk ?_; try dsimp only)
 all_goals (try simp only [db, hL, d5, Option.getD_some, Option.getD_none, Option.isSome_some, Option.isSome_none] at *)
 all_goals first
  | exact ⟨trivial, trivial⟩
  | exact ⟨dF _, trivial⟩
  | exact ⟨hp.1, hfl⟩
  | (exfalso; simp_all; done)
  | (show a7 _ _ _ _ _ _
     refine a7.mk [] ?_ <;> (repeat' first | trivial)
     done)
  | skip
def Nf : Sm := fun args σ => match args, σ with
 | [.list false 6 l_l, .int .i64 id, .int .i64 d], [] => some (l_l = (l_l.map cn).map cQ ∧ (bI (l_l.map cn) id 9 = none), .tuple [.list true 0 [], .int .i64 0], none)
 | _, _ => none
theorem GH (l : List Fd) (id d : Int) (hp : 0 ≤ d ∧ ∀ f ∈ l, f.raw.length ≤ 1000000000) (f : Fd) (hL : bI l id 9 = some f) (hc : (cr d f.raw).1 ≠ 0) : OK 14 [dT l, .int .i64 id, .int .i64 d] [] (.tuple [.list true 0 [], .int .i64 (cr d f.raw).1]) none := by
 refine af (C := cx [(29, mP), (42, sU)]) (ah ⟨pJ, Ao, trivial⟩) (fn := Tryz.f14) rfl rfl rfl rfl fun hw _ => ?_
 have hfl : f.raw.length ≤ 1000000000 := hp.2 f (sa (Nat.le_refl _) hL).1
 repeat' ((conv => whnf); first | apply a9 | apply aJ | ((first | apply al | apply bu) <;> intro h))
 all_goals try conv => whnf
 all_goals try (refine a8.mk ?_; try dsimp only)
 all_goals (try simp only [db, hL, d5, Option.getD_some, Option.getD_none, Option.isSome_some, Option.isSome_none] at *)
 all_goals first
  | exact ⟨trivial, trivial⟩
  | exact ⟨dF _, trivial⟩
  | exact ⟨hp.1, hfl⟩
  | (exfalso; simp_all; done)
  | (show a7 _ _ _ _ _ _
     refine a7.mk [] ?_ <;> (repeat' first | trivial)
     done)
  | skip
theorem zp (l : List Fd) (id d : Int) (hp : 0 ≤ d ∧ ∀ f ∈ l, f.raw.length ≤ 1000000000) : OK 14 ([dT l, .int .i64 id, .int .i64 d]) ([]) (.tuple [ma (strs l id d).1, .int .i64 (strs l id d).2]) (none) := by
 cases hL : bI l id 9 with
 | none => rw [MA hL]; exact (GI l id d hL).res (Wk.tuple (aq.cons (Wk.nil (.inl rfl)) (aq.refl _)))
 | some f =>
   by_cases hz : (cr d f.raw).1 = 0
   . exact (GG l id d hp f hL hz).res (Ls hL hz rfl)
   . rw [My hL hz]
     exact (GH l id d hp f hL hz).res (Wk.tuple (aq.cons (Wk.nil (.inl rfl)) (aq.refl _)))
def tg : Sm := fun args σ => match args, σ with
 | [.list false 6 l_l, .int .i64 id, .int .i64 d], [] => some (l_l = (l_l.map cn).map cQ ∧ (0 ≤ d ∧ ∀ f ∈ (l_l.map cn), f.raw.length ≤ 1000000000), .tuple [ma (strs (l_l.map cn) id d).1, .int .i64 (strs (l_l.map cn) id d).2], none)
 | _, _ => none
theorem AA : aa 14 tg := by
 intro args sg pre x r he hp
 unfold tg at he
 split at he <;> cases he
 . rw [oK (hp).1]; exact zp (hp := hp.2) ..
end Go.Proofs.YtipejldppicijaaGreatDoor
namespace Go.Proofs.YtipejldppicijaaGreatDoor
open Go Go.VG
set_option maxRecDepth 100000
theorem Dt {d : Nat} {i k : Int} {c : Cu} : (bS d ⟨i, k, 0, 0, [], []⟩ c).1.raw.length ≤ c.s.length := by
 have h : (jT d k c).length ≤ c.s.length := by
  unfold jT
  split
  . exact Nat.zero_le _
  . rw [List.length_drop, List.length_take]; omega
 unfold bS
 repeat' split
 all_goals first
  | exact Nat.zero_le _
  | exact h
theorem vJ {α : Type} {P : α → Prop} {l : List α} {x : α} (h : ∀ f ∈ l, P f) (k : P x) : ∀ f ∈ l ++ [x], P f := fun f hf => by
 rcases List.mem_append.1 hf with hf | hf
 . exact h f hf
 . rw [List.mem_singleton.1 hf]; exact k
theorem Cd {d : Nat} {s : List UInt8} : ∀ (n : Nat) (c : Cu) (a : Int) (acc : List Fd) (r), c.ok → c.s = s → (∀ f ∈ acc, f.raw.length ≤ s.length) → gz d n c a acc = some r → ∀ f ∈ r.1, f.raw.length ≤ s.length
 | 0, _, _, _, _, _, _, _, h => by cases h
 | n + 1, c, a, acc, r, hc, hs, ha, h => by
   rw [gz] at h
   have hf := Kp.aK hc a
   have hv := Kp.bS hf.1 d ⟨(c.aK a).1.1, (c.aK a).1.2, 0, 0, [], []⟩
   by_cases g : (c.aK a).1.2 = 0
   . rw [if_pos g] at h; cases h; exact ha
   . rw [if_neg g] at h
     refine Cd n _ _ _ r hv.1 (by rw [hv.2.1, hf.2.1, hs]) (vJ ha ?_) h
     have := Dt (d := d) (i := (c.aK a).1.1) (k := (c.aK a).1.2) (c := (c.aK a).2)
     rw [hf.2.1, hs] at this; exact this
theorem Lt (d : Int) (s : List UInt8) : ∀ f ∈ (bK d s).2.2, f.raw.length ≤ s.length := by
 unfold bK
 split
 . intro f hf; cases hf
 . obtain ⟨r, hr⟩ := ur (31 - d).toNat s
   rw [hr]
   unfold ik
   dsimp only
   split
   . exact Cd _ _ _ _ r (qf s) rfl (fun f hf => by cases hf) hr
   . intro f hf; cases hf
theorem vf {d : Nat} {k : Int} {s : List UInt8} : ∀ (m i : Nat) (c : Cu) (acc : List Fd), c.ok → c.s = s → (∀ f ∈ acc, f.raw.length ≤ s.length) → ∀ f ∈ (ep d k m i c acc).1, f.raw.length ≤ s.length
 | 0, _, _, _, _, _, h => h
 | m + 1, i, c, acc, hc, hs, h => by
   have ht := Dk hc
   have hv := Kp.bS hc d ⟨i, k, 0, 0, [], []⟩
   rw [ep]
   repeat' split
   . exact h
   . refine vf m _ _ _ ht.1 (by rw [ht.2.1, hs]) (vJ h ?_)
     unfold r7
     split <;> exact Nat.zero_le _
   . refine vf m _ _ _ hv.1 (by rw [hv.2.1, hs]) (vJ h ?_)
     have := Dt (d := d) (i := i) (k := k) (c := c)
     rw [hs] at this; exact this
theorem IG (d : Int) (s : List UInt8) : ∀ f ∈ (cr d s).2, f.raw.length ≤ s.length := by
 unfold cr
 split
 . intro f hf; cases hf
 . have hk := Kp.bf (qf s)
   unfold fj
   split
   . intro f hf; cases hf
   . exact vf _ _ _ _ hk.1 (by rw [hk.2.1]; rfl) (fun f hf => by cases hf)
theorem Mx {l : List Fd} {id d : Int} (h : ∀ f ∈ l, f.raw.length ≤ 1000000000) : (strs l id d).1.length ≤ 2147483647 ∧ ∀ x ∈ (strs l id d).1, x.length ≤ 1000000000 := by
 unfold strs
 cases hL : bI l id 9 with
 | none => exact ⟨Nat.zero_le _, fun _ h => by cases h⟩
 | some f =>
   have hf := h f (sa (Nat.le_refl _) hL).1
   dsimp only
   repeat' split
   . exact ⟨Nat.zero_le _, fun _ h => by cases h⟩
   . refine ⟨by rw [List.length_map]; exact zV d f.raw, fun x hx => ?_⟩
     obtain ⟨g, hg, rfl⟩ := List.mem_map.1 hx
     have := IG d f.raw g hg; omega
   . exact ⟨Nat.zero_le _, fun _ h => by cases h⟩
def pY (r : List Tg × Int) : V := if r.2 = 0 then .tuple [nn r.1, .int .i64 0] else .tuple [.list true 0 [], .int .i64 r.2]
theorem K5 {r : List Tg × Int} (h : r.2 ≠ 0 → r.1 = []) : Wk (pY r) (.tuple [nn r.1, .int .i64 r.2]) := by
 unfold pY
 by_cases q : r.2 = 0
 . rw [if_pos q, q]; exact Wk.refl _
 . rw [if_neg q, h q]; exact Wk.tuple (aq.cons (Wk.nil (.inl rfl)) (aq.refl _))
theorem Iy {L : List (List UInt8)} (h : ∀ x ∈ L, x.length ≤ 1000000000) {i : Nat} (hi : i < L.length) : (L.getD i default).length ≤ 1000000000 := by
 refine h _ ?_
 rw [List.getD_eq_getElem?_getD, List.getElem?_eq_getElem hi]; exact List.getElem_mem hi
theorem GD (l : List Fd) (id d : Int) (hp : 0 ≤ d ∧ ∀ f ∈ l, f.raw.length ≤ 1000000000) (hd : d ≤ 1000000) (h0 : (strs l id d).2 = 0) : OK 12 [dT l, .int .i64 id, .int .i64 d] [] (pY (fT d (strs l id d).1 [])) none := by
 refine af (C := cx [(14, tg), (7, wV)]) (ah ⟨AA, J8, trivial⟩) (fn := Tryz.f12) rfl rfl rfl rfl fun hw _ => ?_
 obtain ⟨hb1, hb2⟩ := Mx (id := id) (d := d) hp.2
 repeat' ((conv => whnf); first | apply a9 | apply aJ | (apply al <;> intro h))
 all_goals try conv => whnf
 all_goals try (refine a8.mk ?_; try dsimp only)
 all_goals (try simp only [db, h0] at *)
 all_goals first
  | exact ⟨trivial, hp⟩
  | exact ⟨dF _, hp⟩
  | (exfalso; simp_all; done)
  | skip
 generalize (strs l id d).1 = L at *
 refine bd.mk (Nat × List Tg) (fun (i, acc) => i ≤ L.length ∧ acc.length = i ∧ fT d (L.drop i) acc = fT d L []) (fun (i, acc) => ⟨47, [(2, .int .i64 d), (10, .buf 0), (25, .list false 1 (L.map V.str)), (26, .int .i64 L.length), (27, .int .i64 i)], [.buf 7 0 (acc.map eR)], [0]⟩) (fun x => L.length - x.1) [.tm 10 7] (0, []) ⟨Nat.zero_le _, rfl, by rw [List.drop_zero]⟩ ?_ (fun ⟨i, acc⟩ ⟨h1, h2, h3⟩ _ _ => ?_)
 . refine Go.VG.Sub.mk rfl ?_ ?_ ?_ ?_ <;> (repeat' first | trivial | apply ab | apply au)
   all_goals first
    | rfl
    | (simp; done)
 have hb := fun h => Iy hb2 (i := i) h
 have hst := fun h => Le (d := d) (l := L) (acc := acc) (i := i) h
 rw [h3] at hst
 have hw1 : IntKind.i64.wrap (d + 1) = d + 1 := by rw [bU]; omega
 have hz : i = L.length → fT d L [] = (acc, 0) := fun q => by rw [← h3, q, List.drop_length]; rfl
 generalize hR : dH (d + 1) (L.getD i default) = R at *
 repeat' ((conv => whnf); first | apply a9 | apply aJ | (apply al <;> intro h) | with_reducible apply jd)
 all_goals try conv => whnf
 all_goals try (refine a8.mk ?_; try dsimp only)
 all_goals (try simp only [List.length_map, hw1, hR] at *)
 all_goals first | refine stay ?_ | omega | (simp only [aW]; omega) | skip
 all_goals first
  | (exact ⟨by omega, hb (by omega)⟩)
  | skip
 all_goals try
  (show a7 _ _ _ _ _ _
   first
   | (rw [hst (by omega), if_pos (by assumption)]
      unfold pY
      rw [if_neg (by assumption)]
      refine a7.mk [] ?_ <;> (repeat' first | trivial)
      done)
   | (rw [hz (by omega)]
      unfold pY
      rw [if_pos rfl]
      refine a7.mk [.bH 0] ?_ <;> (repeat' first | trivial)
      done))
 rw [hst (by omega), if_neg (show ¬ R.2 ≠ 0 from fun z => z (by assumption))] at h3
 refine ⟨[], (i + 1, acc ++ [R.1]), ⟨by show i + 1 ≤ L.length; omega, by show (acc ++ [R.1]).length = i + 1; rw [List.length_append, List.length_singleton, h2], ?_⟩, ?_, by show L.length - (i + 1) < L.length - i; omega⟩
 . rw [hst (by omega), if_neg (show ¬ R.2 ≠ 0 from fun z => z (by assumption))]
 . refine Go.VG.Sub.mk rfl ?_ ?_ ?_ ?_ <;> (repeat' first | trivial | apply ab | apply au | apply aE)
   . (simp (discharger := omega) only [wR]; omega)
   . simp
theorem GC (l : List Fd) (id d : Int) (hp : (0 ≤ d ∧ ∀ f ∈ l, f.raw.length ≤ 1000000000) ∧ (strs l id d).2 ≠ 0) : OK 12 ([dT l, .int .i64 id, .int .i64 d]) ([]) (.tuple [.list true 0 [], .int .i64 (strs l id d).2]) (none) := by
 refine af (C := cx [(14, tg)]) (ah ⟨AA, trivial⟩) (fn := Tryz.f12) rfl rfl rfl rfl fun hw hs => ?_
 repeat' ((conv => whnf); first | apply a9 | apply aJ | (apply al <;> intro h))
 all_goals try conv => whnf
 all_goals try (refine a8.mk ?_; try dsimp only)
 all_goals (try simp only [db] at *)
 all_goals first
  | exact ⟨trivial, hp.1⟩
  | exact ⟨dF _, hp.1⟩
  | (exfalso; exact absurd (by assumption) hp.2)
  | (show a7 _ _ _ _ _ _
     refine a7.mk [] ?_ <;> (repeat' first | trivial)
     done)
  | skip
def Nd : Sm := fun args σ => match args, σ with
 | [.list false 6 l_l, .int .i64 id, .int .i64 d], [] => some (l_l = (l_l.map cn).map cQ ∧ ((0 ≤ d ∧ ∀ f ∈ (l_l.map cn), f.raw.length ≤ 1000000000) ∧ (strs (l_l.map cn) id d).2 ≠ 0), .tuple [.list true 0 [], .int .i64 (strs (l_l.map cn) id d).2], none)
 | _, _ => none
theorem zn (l : List Fd) (id d : Int) (hp : (0 ≤ d ∧ ∀ f ∈ l, f.raw.length ≤ 1000000000) ∧ d ≤ 1000000) : OK 12 ([dT l, .int .i64 id, .int .i64 d]) ([]) (.tuple [nn (gM l id d).1, .int .i64 (gM l id d).2]) (none) := by
 unfold gM
 by_cases h : (strs l id d).2 = 0
 . rw [if_neg (fun q => q h)]
   exact (GD l id d hp.1 hp.2 h).res (K5 C7)
 . rw [if_pos h]
   exact (GC l id d ⟨hp.1, h⟩).res (Wk.tuple (aq.cons (Wk.nil (.inl rfl)) (aq.refl _)))
def tf : Sm := fun args σ => match args, σ with
 | [.list false 6 l_l, .int .i64 id, .int .i64 d], [] => some (l_l = (l_l.map cn).map cQ ∧ ((0 ≤ d ∧ ∀ f ∈ (l_l.map cn), f.raw.length ≤ 1000000000) ∧ d ≤ 1000000), .tuple [nn (gM (l_l.map cn) id d).1, .int .i64 (gM (l_l.map cn) id d).2], none)
 | _, _ => none
theorem Az : aa 12 tf := by
 intro args sg pre x r he hp
 unfold tf at he
 split at he <;> cases he
 . rw [oK (hp).1]; exact zn (hp := hp.2) ..
end Go.Proofs.YtipejldppicijaaGreatDoor
