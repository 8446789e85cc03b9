/-
  A part of the proof.
-/
import Derived.Test.YtllncocibkgjkaaTRb
import Derived.Test.YtllncocibkgjkaaJTu
set_option linter.unusedSimpArgs false
set_option linter.unusedVariables false
set_option maxHeartbeats 4000000
namespace Go.Proofs.Ytllncocibkgjkaa
open Go Go.VG
set_option maxRecDepth 100000
def cN : List V → List Tk
 | [] => []
 | .agg [.int _ a, .str t] :: r => ⟨byte a, t⟩ :: cN r
 | _ :: r => default :: cN r
@[simp] theorem C3 (l : List Tk) : cN (l.map vT) = l := by
 induction l with
 | nil => rfl
 | cons b s ih =>
   have h : byte (b.k.toNat : Int) = b.k := bH _
   simp only [List.map_cons, vT, eT, bv, cN, ih, h]
def nW (l : List V) : Prop := l = (cN l).map vT
theorem gn {l : List Tk} : nW (l.map vT) := by unfold nW; rw [C3]
abbrev fP (s : Sx) : V := .agg [.list false 2 (s.1.map vT), .int .i64 s.2]
theorem sJ {l : List V} {e : Int} (h : nW l) : V.agg [.list false 2 l, .int .i64 e] = fP (cN l, e) := by
 show _ = V.agg [.list false 2 ((cN l).map vT), .int .i64 e]
 rw [← h]
def aP : List V → List Nd
 | [] => []
 | .agg [.int _ a, .str k, .str t, .int _ n] :: r => ⟨byte a, k, t, n⟩ :: aP r
 | _ :: r => default :: aP r
@[simp] theorem bT (l : List Nd) : aP (l.map aH) = l := by
 induction l with
 | nil => rfl
 | cons b s ih =>
   have h : byte (b.k.toNat : Int) = b.k := bH _
   simp only [List.map_cons, aH, nc, aP, ih, h]
def cV (l : List V) : Prop := l = (aP l).map aH
theorem dH {l : List Nd} : cV (l.map aH) := by unfold cV; rw [bT]
abbrev cD (L : List Nd) : O := .buf 4 0 (L.map aH)
theorem sI {l : List V} (h : cV l) : O.buf 4 0 l = cD (aP l) := by
 show _ = O.buf 4 0 ((aP l).map aH)
 rw [← h]
theorem BU : ∀ (n : Nat) (c : Cu), c.ok → (fL n c).1.length ≤ c.e - c.p
 | 0, _, _ => Nat.zero_le _
 | n + 1, c, hk => by
   rw [fL]
   by_cases h1 : c.aJ.1.c ≠ 0
   . rw [if_pos h1]; exact Nat.zero_le _
   rw [if_neg h1]
   by_cases h2 : c.aJ.2.k = 0
   . rw [if_pos h2]; exact Nat.zero_le _
   rw [if_neg h2]
   have hd := pJ hk (by omega)
   have hp := hd.2.2.2.2.2 h2
   have hp2 := hd.1.1
   have := BU n c.aJ.1 hd.1
   have e := hd.2.2.1
   show (fL n c.aJ.1).1.length + 1 ≤ _
   omega
def kA : List V → List (List UInt8)
 | [] => []
 | .str t :: r => t :: kA r
 | _ :: r => [] :: kA r
@[simp] theorem iW (l : List (List UInt8)) : kA (l.map V.str) = l := by
 induction l with
 | nil => rfl
 | cons b s ih => simp only [List.map_cons, kA, ih]
def jh (l : List V) : Prop := l = (kA l).map V.str
theorem AJ {l : List (List UInt8)} : jh (l.map V.str) := by unfold jh; rw [iW]
abbrev lY (L : List (List UInt8)) : O := .buf 1 0 (L.map V.str)
theorem Kr {l : List V} (h : jh l) : O.buf 1 0 l = lY (kA l) := by
 show _ = O.buf 1 0 ((kA l).map V.str)
 rw [← h]
theorem Fe (s : List UInt8) (hp : s.length ≤ 10000000) : OK 59 ([.str s]) ([]) (fP (aW (.new s))) (none) := by
 refine aC (C := cx [(20, w9), (19, wk)]) (ay ⟨GI, GR, trivial⟩) (fn := Try.f59) rfl rfl rfl rfl fun hw hs => ?_
 repeat' ((conv => whnf); apply al)
 all_goals try conv => whnf
 all_goals try (refine ae.mk ?_; try dsimp only)
 refine bn.mk (Nat × Nat × Cu × List Tk) (fun | (i, n, c, acc) => (i + n = s.length + 1 ∧ c.ok ∧ c.s = s ∧ c.c = 0) ∧ c.e - c.p + 1 ≤ n ∧ acc.length ≤ c.p ∧ aW (.new s) = (acc ++ (fL n c).1, (fL n c).2))
  (fun | (i, n, c, acc) => ⟨40, [(0, .str s), (2, .ptr 0 0), (3, .ptr 1 0), (4, .buf 2), (5, .int .i64 i)], [.cells [.list true 0 [], .int .i64 0], .cells (eC c), .buf 2 0 (acc.map vT)], [2]⟩) (fun x => x.2.1) [.tm 4 2] (0, s.length + 1, .new s, [])
  ⟨⟨by omega, uM s, rfl, rfl⟩, by show s.length - 0 + 1 ≤ s.length + 1; omega, Nat.zero_le _, rfl⟩ ?_ (fun ⟨i, n, c, acc⟩ ⟨⟨hin, hk, hs, h0⟩, hn, ha, he⟩ _ _ => ?_)
 . refine Go.VG.Sub.mk rfl ?_ ?_ ?_ ?_ <;> (repeat' first | trivial)
 obtain ⟨n, rfl⟩ : ∃ m, n = m + 1 := ⟨n - 1, by omega⟩
 rw [fL] at he
 have on := fun h => pJ hk h
 have hp1 := hk.1
 have hp2 := hk.2
 have hsl : c.s.length ≤ 10000000 := by rw [hs]; exact hp
 have hml : (acc.map vT).length = acc.length := List.length_map _
 repeat' ((conv => whnf); first | apply al | apply aZ | (apply ao <;> intro h))
 all_goals try conv => whnf
 all_goals try (refine ae.mk ?_; try dsimp only)
 all_goals first | refine stay ?_ | trivial | (simp only [d7]; omega) | skip
 all_goals (try simp only [aR] at *)
 . have z : c.aJ.1.c = 0 := by assumption
   have k0 : c.aJ.2.k = 0 := UInt8.toNat_inj.1 (by show _ = 0; omega)
   rw [if_neg (by omega), if_pos k0, List.append_nil] at he
   rw [he, z]
   refine a8.mk [.dk 2] ?_ <;> (repeat' first | trivial)
 . have z : c.aJ.1.c = 0 := by assumption
   have k0 : c.aJ.2.k ≠ 0 := fun e => by
    exact absurd (show ((c.aJ.2.k.toNat : Nat) : Int) = 0 by rw [e]; rfl) (by assumption)
   obtain ⟨o1, o2, o3, o4, o5, o6⟩ := on z
   have o6 := o6 k0
   have o7 := o1.1
   rw [if_neg (by omega), if_neg k0] at he
   refine ⟨[], (i + 1, n, c.aJ.1, acc ++ [c.aJ.2]), ⟨⟨by show i + 1 + n = s.length + 1; omega, o1, o2.trans hs, z⟩, by show c.aJ.1.e - c.aJ.1.p + 1 ≤ n; omega, by show (acc ++ [c.aJ.2]).length ≤ c.aJ.1.p; rw [List.length_append, List.length_singleton]; omega, by show _ = ((acc ++ [c.aJ.2]) ++ _, _); rw [List.append_assoc]; exact he⟩, ?_, by show n < n + 1; omega⟩
   refine Go.VG.Sub.mk rfl ?_ ?_ ?_ ?_ <;> (repeat' first | trivial | apply aj | apply aQ | apply aV)
   all_goals first
    | (first | (simp (discharger := omega) only [wR]; omega) | (simp (discharger := omega) [-List.getD_eq_getElem?_getD, wR] <;> omega))
    | simp
 . have z : c.aJ.1.c ≠ 0 := by assumption
   rw [if_pos z, List.append_nil] at he
   rw [he]
   refine a8.mk [.dk 2] ?_ <;> (repeat' first | trivial)
 . exfalso; omega
def wz : Sm := fun args σ => match args, σ with
 | [.str s], [] => some (s.length ≤ 10000000, fP (aW (.new s)), none)
 | _, _ => none
theorem H3 : aD 59 wz := by
 intro args sg pre x r he hp
 unfold wz at he
 split at he <;> cases he
 . exact Fe (hp := hp) ..
theorem F8 (s : Sx) (hp : True) : OK 84 ([fP s]) ([]) (.tuple [.agg (eT (if aw s = 0 then af s else default)), fP (aa s), .int .i64 (aw s)]) (none) := by
 refine aC (C := cx []) (ay trivial) (fn := Try.f84) rfl rfl rfl rfl fun hw hs => ?_
 have hml : (s.1.map vT).length = s.1.length := List.length_map _
 have he0 : s.1.length > 0 → aw s = 0 := fun h => by unfold aw; rw [if_pos h]
 have he1 : ¬ s.1.length > 0 → s.2 = 0 → aw s = 1 := fun h h2 => by unfold aw; rw [if_neg h, if_pos h2]
 have he2 : ¬ s.1.length > 0 → ¬ s.2 = 0 → aw s = s.2 := fun h h2 => by unfold aw; rw [if_neg h, if_neg h2]
 have hnil : ¬ s.1.length > 0 → s.1 = [] := fun h => by
  cases hs : s.1 with
  | nil => rfl
  | cons a b => exfalso; rw [hs] at h; simp at h
 repeat' ((conv => whnf); first | apply al | (apply ao <;> intro h) | with_reducible apply goG)
 all_goals try conv => whnf
 all_goals try (refine ae.mk ?_; try dsimp only)
 all_goals first | refine stay ?_ | trivial | omega | skip
 . rw [he0 (by omega), if_pos rfl]
   refine a8.mk [] ?_ <;> (repeat' first | trivial | apply aj | apply eqF | apply eqG | apply ja | apply eF)
   show (s.1.map vT).drop 1 = (s.1.drop 1).map vT
   rw [List.map_drop]
 . rw [he1 (by omega) (by omega), if_neg (by decide)]
   unfold aa
   rw [hnil (by omega)]
   refine a8.mk [] ?_ <;> (repeat' first | trivial)
 . rw [he2 (by omega) (by omega), if_neg (by omega)]
   unfold aa
   rw [hnil (by omega)]
   refine a8.mk [] ?_ <;> (repeat' first | trivial)
def ot : Sm := fun args σ => match args, σ with
 | [.agg [.list false 2 l_s, .int .i64 e_s]], [] => some (nW l_s ∧ (True), .tuple [.agg (eT (if aw ((cN l_s, e_s)) = 0 then af ((cN l_s, e_s)) else default)), fP (aa ((cN l_s, e_s))), .int .i64 (aw ((cN l_s, e_s)))], none)
 | _, _ => none
theorem rn : aD 84 ot := by
 intro args sg pre x r he hp
 unfold ot at he
 split at he <;> cases he
 . rw [sJ (hp).1]; exact F8 (hp := hp.2) ..
-- #name r13within truchmanref13.within
theorem Fh (k : UInt8) (key : List UInt8) (L : List Nd) (hp : L.length ≤ 100000000) : OK 86 [bv k, .str key, .buf 0] [cD L] (.buf 1) (some [.dead, cD (⟨k, key, [], L.length + 1⟩ :: L)]) := by
 refine aC (C := cxl [] [13]) (u9 trivial) (fn := Try.f86) rfl rfl rfl rfl fun hw hs => ?_
 have hl : (L.map aH).length = L.length := List.length_map _
 have hw1 : IntKind.i64.wrap ((L.length : Int) + 1) = (L.length : Int) + 1 := by rw [gJ]; omega
 repeat' ((conv => whnf); apply al)
 all_goals try conv => whnf
 all_goals try (refine ae.mk ?_; try dsimp only)
 all_goals (try simp only [hl, hw1] at *)
 all_goals first | refine stay ?_ | (simp only [d7]; omega) | skip
 refine a8.mk [] ?_ <;> (repeat' first | trivial)
def wC : Sm := fun args σ => match args, σ with
 | [.int .u8 k, .str key, .buf 0], [.buf 4 0 l] => some (cV l ∧ (0 ≤ k ∧ k ≤ 255) ∧ l.length ≤ 100000000, .buf 1, some [.dead, cD (⟨byte k, key, [], l.length + 1⟩ :: aP l)])
 | _, _ => none
theorem H4 : aD 86 wC := by
 intro args sg pre x r he hp
 unfold wC at he
 split at he <;> cases he
 rename_i k key l
 have e : (aP l).length = l.length := by have h := congrArg List.length hp.1; rw [List.length_map] at h; exact h.symm
 have h := Fh (byte k) key (aP l) (by rw [e]; exact hp.2.2)
 rw [da hp.2.1, sI hp.1, ← e]
 exact h
theorem F4 (l : List (List UInt8)) (x : List UInt8) (hp : l.length ≤ 100000000) : OK 104 ([.buf 0, .str x]) ([lY l]) (.bool (decide (x ∈ l))) (none) := by
 refine aC (C := cx []) (ay trivial) (fn := Try.f104) rfl rfl rfl rfl fun hw hs => ?_
 have hl : (l.map V.str).length = l.length := List.length_map _
 all_goals try conv => whnf
 all_goals try (refine ae.mk ?_; try dsimp only)
 all_goals try refine stay ?_
 refine bn.mk Nat (fun i => i ≤ l.length ∧ x ∉ l.take i) (fun i => ⟨18, [(0, .buf 0), (1, .str x), (5, .int .i64 i)], [lY l], []⟩) (fun i => l.length - i) [] 0 ⟨Nat.zero_le _, by simp⟩ ?_ (fun i ⟨hi, hx⟩ _ _ => ?_)
 . refine Go.VG.Sub.mk rfl ?_ ?_ ?_ ?_ <;> (repeat' first | trivial)
 have hnx : ∀ h : i < l.length, l.take (i + 1) = l.take i ++ [l[i]] := fun h => by rw [List.take_add_one, List.getElem?_eq_getElem h]; rfl
 repeat' ((conv => whnf); first | apply al | ((first | apply ao | apply nC) <;> intro h) | with_reducible apply ie)
 all_goals try conv => whnf
 all_goals try (refine ae.mk ?_; try dsimp only)
 all_goals first | refine stay ?_ | omega | skip
 . have hm : x ∈ l := by
     have h := ‹l.getD i default = x›
     rw [List.getD_eq_getElem?_getD, List.getElem?_eq_getElem (by omega)] at h
     rw [← h]
     exact List.getElem_mem _
   rw [decide_eq_true hm]
   refine a8.mk [] ?_ <;> (repeat' first | trivial)
 . refine ⟨[], i + 1, ⟨by omega, ?_⟩, ?_, by omega⟩
   . rw [hnx (by omega), List.mem_append, List.mem_singleton]
     rintro (q | q)
     . exact hx q
     . have h := ‹¬ l.getD i default = x›
       rw [List.getD_eq_getElem?_getD, List.getElem?_eq_getElem (by omega)] at h
       exact h q.symm
   refine Go.VG.Sub.mk rfl ?_ ?_ ?_ ?_ <;> (repeat' first | trivial | apply aj | apply aQ)
   all_goals (simp (discharger := omega) only [wR]; omega)
 . have hm : ¬ x ∈ l := by rw [List.take_of_length_le (by omega)] at hx; exact hx
   rw [decide_eq_false hm]
   refine a8.mk [] ?_ <;> (repeat' first | trivial)
def sr : Sm := fun args σ => match args, σ with
 | [.buf 0, .str x], [.buf 1 0 l_l] => some (jh l_l ∧ ((kA l_l).length ≤ 100000000), .bool (decide (x ∈ (kA l_l))), none)
 | _, _ => none
theorem zH : aD 104 sr := by
 intro args sg pre x r he hp
 unfold sr at he
 split at he <;> cases he
 . rw [Kr (hp).1]; exact F4 (hp := hp.2) ..
end Go.Proofs.Ytllncocibkgjkaa
