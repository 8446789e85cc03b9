/-
  A part of the proof.
-/
import Derived.Test.YtllncocibkgjkaaGreatTRb
import Derived.Test.YtllncocibkgjkaaGreatJTu
set_option linter.unusedSimpArgs false
set_option linter.unusedVariables false
set_option maxHeartbeats 4000000
namespace Go.Proofs.YtllncocibkgjkaaGreat
open Go Go.VG
set_option maxRecDepth 100000
def cR : List V → List Tk
 | [] => []
 | .agg [.int _ a, .str t] :: r => ⟨byte a, t⟩ :: cR r
 | _ :: r => default :: cR r
@[simp] theorem CM (l : List Tk) : cR (l.map vT) = l := by
 induction l with
 | nil => rfl
 | cons b s ih =>
   have h : byte (b.k.toNat : Int) = b.k := c5 _
   simp only [List.map_cons, vT, eT, bv, cR, ih, h]
def oy (l : List V) : Prop := l = (cR l).map vT
theorem gH {l : List Tk} : oy (l.map vT) := by unfold oy; rw [CM]
abbrev fU (s : Sx) : V := .agg [.list false 2 (s.1.map vT), .int .i64 s.2]
theorem tA {l : List V} {e : Int} (h : oy l) : V.agg [.list false 2 l, .int .i64 e] = fU (cR l, e) := by
 show _ = V.agg [.list false 2 ((cR l).map vT), .int .i64 e]
 rw [← h]
def bH : List V → List Nd
 | [] => []
 | .agg [.int _ a, .str k, .str t, .int _ n] :: r => ⟨byte a, k, t, n⟩ :: bH r
 | _ :: r => default :: bH r
@[simp] theorem du (l : List Nd) : bH (l.map aQ) = l := by
 induction l with
 | nil => rfl
 | cons b s ih =>
   have h : byte (b.k.toNat : Int) = b.k := c5 _
   simp only [List.map_cons, aQ, nx, bH, ih, h]
def gG (l : List V) : Prop := l = (bH l).map aQ
theorem iJ {l : List Nd} : gG (l.map aQ) := by unfold gG; rw [du]
abbrev fJ (L : List Nd) : O := .buf 4 0 (L.map aQ)
theorem LO {l : List V} (h : gG l) : O.buf 4 0 l = fJ (bH l) := by
 show _ = O.buf 4 0 ((bH l).map aQ)
 rw [← h]
theorem CC : ∀ (n : Nat) (c : Cu), c.ok → (fQ n c).1.length ≤ c.e - c.p
 | 0, _, _ => Nat.zero_le _
 | n + 1, c, hk => by
   rw [fQ]
   by_cases h1 : c.aN.1.c ≠ 0
   . rw [if_pos h1]; exact Nat.zero_le _
   rw [if_neg h1]
   by_cases h2 : c.aN.2.k = 0
   . rw [if_pos h2]; exact Nat.zero_le _
   rw [if_neg h2]
   have hd := s8 hk (by omega)
   have hp := hd.2.2.2.2.2 h2
   have hp2 := hd.1.1
   have := CC n c.aN.1 hd.1
   have e := hd.2.2.1
   show (fQ n c.aN.1).1.length + 1 ≤ _
   omega
def kW : List V → List (List UInt8)
 | [] => []
 | .str t :: r => t :: kW r
 | _ :: r => [] :: kW r
@[simp] theorem km (l : List (List UInt8)) : kW (l.map V.str) = l := by
 induction l with
 | nil => rfl
 | cons b s ih => simp only [List.map_cons, kW, ih]
def jA (l : List V) : Prop := l = (kW l).map V.str
theorem Bp {l : List (List UInt8)} : jA (l.map V.str) := by unfold jA; rw [km]
abbrev mq (L : List (List UInt8)) : O := .buf 1 0 (L.map V.str)
theorem LN {l : List V} (h : jA l) : O.buf 1 0 l = mq (kW l) := by
 show _ = O.buf 1 0 ((kW l).map V.str)
 rw [← h]
theorem Gk (s : List UInt8) (hp : s.length ≤ 10000000) : OK 36 ([.str s]) ([]) (fU (aW (.new s))) (none) := by
 refine aq (C := cx [(62, wT), (63, x9)]) (ar ⟨HS, I1, trivial⟩) (fn := Tryz.f36) rfl rfl rfl rfl fun hw hs => ?_
 repeat' ((conv => whnf); apply ak)
 all_goals try conv => whnf
 all_goals try (refine ab.mk ?_; try dsimp only)
 refine bn.mk (Nat × Nat × Cu × List Tk) (fun | (i, n, c, acc) => (i + n = s.length + 1 ∧ c.ok ∧ c.s = s ∧ c.c = 0) ∧ c.e - c.p + 1 ≤ n ∧ acc.length ≤ c.p ∧ aW (.new s) = (acc ++ (fQ n c).1, (fQ n c).2))
  (fun | (i, n, c, acc) => ⟨40, [(0, .str s), (2, .ptr 0 0), (3, .ptr 1 0), (4, .buf 2), (5, .int .i64 i)], [.cells [.list true 0 [], .int .i64 0], .cells (eC c), .buf 2 0 (acc.map vT)], [2]⟩) (fun x => x.2.1) [.tm 4 2] (0, s.length + 1, .new s, [])
  ⟨⟨by omega, Bh s, rfl, rfl⟩, by show s.length - 0 + 1 ≤ s.length + 1; omega, Nat.zero_le _, rfl⟩ ?_ (fun ⟨i, n, c, acc⟩ ⟨⟨hin, hk, hs, h0⟩, hn, ha, he⟩ _ _ => ?_)
 . refine Go.VG.Sub.mk rfl ?_ ?_ ?_ ?_ <;> (repeat' first | trivial)
 obtain ⟨n, rfl⟩ : ∃ m, n = m + 1 := ⟨n - 1, by omega⟩
 rw [fQ] at he
 have on := fun h => s8 hk h
 have hp1 := hk.1
 have hp2 := hk.2
 have hsl : c.s.length ≤ 10000000 := by rw [hs]; exact hp
 have hml : (acc.map vT).length = acc.length := List.length_map _
 repeat' ((conv => whnf); first | apply ak | apply aV | (apply al <;> intro h))
 all_goals try conv => whnf
 all_goals try (refine ab.mk ?_; try dsimp only)
 all_goals first | refine stay ?_ | trivial | (simp only [cK]; omega) | skip
 all_goals (try simp only [aP] at *)
 . have z : c.aN.1.c = 0 := by assumption
   have k0 : c.aN.2.k = 0 := UInt8.toNat_inj.1 (by show _ = 0; omega)
   rw [if_neg (by omega), if_pos k0, List.append_nil] at he
   rw [he, z]
   refine a8.mk [.dQ 2] ?_ <;> (repeat' first | trivial)
 . have z : c.aN.1.c = 0 := by assumption
   have k0 : c.aN.2.k ≠ 0 := fun e => by
    exact absurd (show ((c.aN.2.k.toNat : Nat) : Int) = 0 by rw [e]; rfl) (by assumption)
   obtain ⟨o1, o2, o3, o4, o5, o6⟩ := on z
   have o6 := o6 k0
   have o7 := o1.1
   rw [if_neg (by omega), if_neg k0] at he
   refine ⟨[], (i + 1, n, c.aN.1, acc ++ [c.aN.2]), ⟨⟨by show i + 1 + n = s.length + 1; omega, o1, o2.trans hs, z⟩, by show c.aN.1.e - c.aN.1.p + 1 ≤ n; omega, by show (acc ++ [c.aN.2]).length ≤ c.aN.1.p; rw [List.length_append, List.length_singleton]; omega, by show _ = ((acc ++ [c.aN.2]) ++ _, _); rw [List.append_assoc]; exact he⟩, ?_, by show n < n + 1; omega⟩
   refine Go.VG.Sub.mk rfl ?_ ?_ ?_ ?_ <;> (repeat' first | trivial | apply aj | apply aR | apply aM)
   all_goals first
    | (first | (simp (discharger := omega) only [wR]; omega) | (simp (discharger := omega) [-List.getD_eq_getElem?_getD, wR] <;> omega))
    | simp
 . have z : c.aN.1.c ≠ 0 := by assumption
   rw [if_pos z, List.append_nil] at he
   rw [he]
   refine a8.mk [.dQ 2] ?_ <;> (repeat' first | trivial)
 . exfalso; omega
def xg : Sm := fun args σ => match args, σ with
 | [.str s], [] => some (s.length ≤ 10000000, fU (aW (.new s)), none)
 | _, _ => none
theorem I9 : ay 36 xg := by
 intro args sg pre x r he hp
 unfold xg at he
 split at he <;> cases he
 . exact Gk (hp := hp) ..
theorem Gg (s : Sx) (hp : True) : OK 64 ([fU s]) ([]) (.tuple [.agg (eT (if az s = 0 then ae s else default)), fU (aa s), .int .i64 (az s)]) (none) := by
 refine aq (C := cx []) (ar trivial) (fn := Tryz.f64) rfl rfl rfl rfl fun hw hs => ?_
 have hml : (s.1.map vT).length = s.1.length := List.length_map _
 have he0 : s.1.length > 0 → az s = 0 := fun h => by unfold az; rw [if_pos h]
 have he1 : ¬ s.1.length > 0 → s.2 = 0 → az s = 1 := fun h h2 => by unfold az; rw [if_neg h, if_pos h2]
 have he2 : ¬ s.1.length > 0 → ¬ s.2 = 0 → az s = s.2 := fun h h2 => by unfold az; rw [if_neg h, if_neg h2]
 have hnil : ¬ s.1.length > 0 → s.1 = [] := fun h => by
  cases hs : s.1 with
  | nil => rfl
  | cons a b => exfalso; rw [hs] at h; simp at h
 repeat' ((conv => whnf); first | apply ak | (apply al <;> intro h) | with_reducible apply goG)
 all_goals try conv => whnf
 all_goals try (refine ab.mk ?_; try dsimp only)
 all_goals first | refine stay ?_ | trivial | omega | skip
 . rw [he0 (by omega), if_pos rfl]
   refine a8.mk [] ?_ <;> (repeat' first | trivial | apply aj | apply eqF | apply eqG | apply jr | apply dm)
   show (s.1.map vT).drop 1 = (s.1.drop 1).map vT
   rw [List.map_drop]
 . rw [he1 (by omega) (by omega), if_neg (by decide)]
   unfold aa
   rw [hnil (by omega)]
   refine a8.mk [] ?_ <;> (repeat' first | trivial)
 . rw [he2 (by omega) (by omega), if_neg (by omega)]
   unfold aa
   rw [hnil (by omega)]
   refine a8.mk [] ?_ <;> (repeat' first | trivial)
def oN : Sm := fun args σ => match args, σ with
 | [.agg [.list false 2 l_s, .int .i64 e_s]], [] => some (oy l_s ∧ (True), .tuple [.agg (eT (if az ((cR l_s, e_s)) = 0 then ae ((cR l_s, e_s)) else default)), fU (aa ((cR l_s, e_s))), .int .i64 (az ((cR l_s, e_s)))], none)
 | _, _ => none
theorem rK : ay 64 oN := by
 intro args sg pre x r he hp
 unfold oN at he
 split at he <;> cases he
 . rw [tA (hp).1]; exact Gg (hp := hp.2) ..
-- #name r13within truchmanref13.within
theorem Gn (k : UInt8) (key : List UInt8) (L : List Nd) (hp : L.length ≤ 100000000) : OK 66 [bv k, .str key, .buf 0] [fJ L] (.buf 1) (some [.dead, fJ (⟨k, key, [], L.length + 1⟩ :: L)]) := by
 refine aq (C := cxl [] [13]) (rC trivial) (fn := Tryz.f66) rfl rfl rfl rfl fun hw hs => ?_
 have hl : (L.map aQ).length = L.length := List.length_map _
 have hw1 : IntKind.i64.wrap ((L.length : Int) + 1) = (L.length : Int) + 1 := by rw [gU]; omega
 repeat' ((conv => whnf); apply ak)
 all_goals try conv => whnf
 all_goals try (refine ab.mk ?_; try dsimp only)
 all_goals (try simp only [hl, hw1] at *)
 all_goals first | refine stay ?_ | (simp only [cK]; omega) | skip
 refine a8.mk [] ?_ <;> (repeat' first | trivial)
def xh : Sm := fun args σ => match args, σ with
 | [.int .u8 k, .str key, .buf 0], [.buf 4 0 l] => some (gG l ∧ (0 ≤ k ∧ k ≤ 255) ∧ l.length ≤ 100000000, .buf 1, some [.dead, fJ (⟨byte k, key, [], l.length + 1⟩ :: bH l)])
 | _, _ => none
theorem Ia : ay 66 xh := by
 intro args sg pre x r he hp
 unfold xh at he
 split at he <;> cases he
 rename_i k key l
 have e : (bH l).length = l.length := by have h := congrArg List.length hp.1; rw [List.length_map] at h; exact h.symm
 have h := Gn (byte k) key (bH l) (by rw [e]; exact hp.2.2)
 rw [dw hp.2.1, LO hp.1, ← e]
 exact h
theorem Gb (l : List (List UInt8)) (x : List UInt8) (hp : l.length ≤ 100000000) : OK 92 ([.buf 0, .str x]) ([mq l]) (.bool (decide (x ∈ l))) (none) := by
 refine aq (C := cx []) (ar trivial) (fn := Tryz.f92) rfl rfl rfl rfl fun hw hs => ?_
 have hl : (l.map V.str).length = l.length := List.length_map _
 all_goals try conv => whnf
 all_goals try (refine ab.mk ?_; try dsimp only)
 all_goals try refine stay ?_
 refine bn.mk Nat (fun i => i ≤ l.length ∧ x ∉ l.take i) (fun i => ⟨18, [(0, .buf 0), (1, .str x), (5, .int .i64 i)], [mq l], []⟩) (fun i => l.length - i) [] 0 ⟨Nat.zero_le _, by simp⟩ ?_ (fun i ⟨hi, hx⟩ _ _ => ?_)
 . refine Go.VG.Sub.mk rfl ?_ ?_ ?_ ?_ <;> (repeat' first | trivial)
 have hnx : ∀ h : i < l.length, l.take (i + 1) = l.take i ++ [l[i]] := fun h => by rw [List.take_add_one, List.getElem?_eq_getElem h]; rfl
 repeat' ((conv => whnf); first | apply ak | ((first | apply al | apply go9) <;> intro h) | with_reducible apply jw)
 all_goals try conv => whnf
 all_goals try (refine ab.mk ?_; try dsimp only)
 all_goals first | refine stay ?_ | omega | skip
 . have hm : x ∈ l := by
     have h := ‹l.getD i default = x›
     rw [List.getD_eq_getElem?_getD, List.getElem?_eq_getElem (by omega)] at h
     rw [← h]
     exact List.getElem_mem _
   rw [decide_eq_true hm]
   refine a8.mk [] ?_ <;> (repeat' first | trivial)
 . refine ⟨[], i + 1, ⟨by omega, ?_⟩, ?_, by omega⟩
   . rw [hnx (by omega), List.mem_append, List.mem_singleton]
     rintro (q | q)
     . exact hx q
     . have h := ‹¬ l.getD i default = x›
       rw [List.getD_eq_getElem?_getD, List.getElem?_eq_getElem (by omega)] at h
       exact h q.symm
   refine Go.VG.Sub.mk rfl ?_ ?_ ?_ ?_ <;> (repeat' first | trivial | apply aj | apply aR)
   all_goals (simp (discharger := omega) only [wR]; omega)
 . have hm : ¬ x ∈ l := by rw [List.take_of_length_le (by omega)] at hx; exact hx
   rw [decide_eq_false hm]
   refine a8.mk [] ?_ <;> (repeat' first | trivial)
def tc : Sm := fun args σ => match args, σ with
 | [.buf 0, .str x], [.buf 1 0 l_l] => some (jA l_l ∧ ((kW l_l).length ≤ 100000000), .bool (decide (x ∈ (kW l_l))), none)
 | _, _ => none
theorem Al : ay 92 tc := by
 intro args sg pre x r he hp
 unfold tc at he
 split at he <;> cases he
 . rw [LN (hp).1]; exact Gb (hp := hp.2) ..
end Go.Proofs.YtllncocibkgjkaaGreat
