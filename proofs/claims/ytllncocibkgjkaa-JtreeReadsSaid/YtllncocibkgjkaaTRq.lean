/-
  A tree of JSON as the document reads it: tokens, the next one, a value.
-/
import Derived.Test.YtllncocibkgjkaaTRb
import Derived.Test.YtllncocibkgjkaaJTu
set_option linter.unusedSimpArgs false
set_option linter.unusedVariables false
set_option maxHeartbeats 4000000
namespace Go.Proofs.Ytllncocibkgjkaa
open Go Go.VG
set_option maxRecDepth 100000
def upT : List V → List Tk
  | [] => []
  | .agg [.int _ a, .str t] :: r => ⟨byte a, t⟩ :: upT r
  | _ :: r => default :: upT r
@[simp] theorem akw (l : List Tk) : upT (l.map vT) = l := by
  induction l with
  | nil => rfl
  | cons b s ih =>
    have h : byte (b.k.toNat : Int) = b.k := aaf _
    simp only [List.map_cons, vT, eT, bv, upT, ih, h]
def okT (l : List V) : Prop := l = (upT l).map vT
theorem acp {l : List Tk} : okT (l.map vT) := by unfold okT; rw [akw]
abbrev eSx (s : Sx) : V := .agg [.list false 2 (s.1.map vT), .int .i64 s.2]
theorem a25 {l : List V} {e : Int} (h : okT l) : V.agg [.list false 2 l, .int .i64 e] = eSx (upT l, e) := by
  show _ = V.agg [.list false 2 ((upT l).map vT), .int .i64 e]
  rw [← h]
theorem a80 (s : Sx) : (s.1, s.2) = s := rfl
def upN : List V → List Nd
  | [] => []
  | .agg [.int _ a, .str k, .str t, .int _ n] :: r => ⟨byte a, k, t, n⟩ :: upN r
  | _ :: r => default :: upN r
@[simp] theorem aaa (l : List Nd) : upN (l.map eNd) = l := by
  induction l with
  | nil => rfl
  | cons b s ih =>
    have h : byte (b.k.toNat : Int) = b.k := aaf _
    simp only [List.map_cons, eNd, eNc, upN, ih, h]
def okN (l : List V) : Prop := l = (upN l).map eNd
theorem aco {l : List Nd} : okN (l.map eNd) := by unfold okN; rw [aaa]
abbrev eNb (L : List Nd) : O := .buf 4 0 (L.map eNd)
theorem a24 {l : List V} (h : okN l) : O.buf 4 0 l = eNb (upN l) := by
  show _ = O.buf 4 0 ((upN l).map eNd)
  rw [← h]
theorem a20 : ∀ (n : Nat) (c : Cu), c.ok → (aez n c).1.length ≤ c.e - c.p
  | 0, _, _ => Nat.zero_le _
  | n + 1, c, hk => by
    rw [aez]
    by_cases h1 : c.aan.1.c ≠ 0
    · rw [if_pos h1]; exact Nat.zero_le _
    rw [if_neg h1]
    by_cases h2 : c.aan.2.k = 0
    · rw [if_pos h2]; exact Nat.zero_le _
    rw [if_neg h2]
    have hd := ali hk (by omega)
    have hp := hd.2.2.2.2.2 h2
    have hp2 := hd.1.1
    have := a20 n c.aan.1 hd.1
    have e := hd.2.2.1
    show (aez n c.aan.1).1.length + 1 ≤ _
    omega
def upK : List V → List (List UInt8)
  | [] => []
  | .str t :: r => t :: upK r
  | _ :: r => [] :: upK r
@[simp] theorem abn (l : List (List UInt8)) : upK (l.map V.str) = l := by
  induction l with
  | nil => rfl
  | cons b s ih => simp only [List.map_cons, upK, ih]
def okK (l : List V) : Prop := l = (upK l).map V.str
theorem aki {l : List (List UInt8)} : okK (l.map V.str) := by unfold okK; rw [abn]
abbrev eKb (L : List (List UInt8)) : O := .buf 1 0 (L.map V.str)
theorem viewKb {l : List V} (h : okK l) : O.buf 1 0 l = eKb (upK l) := by
  show _ = O.buf 1 0 ((upK l).map V.str)
  rw [← h]
theorem atq (s : List UInt8) (hp : s.length ≤ 10000000) : OK 59 ([.str s]) ([]) (eSx (aeb (.new s))) (none) := by
  refine aa0 (C := cx [(20, aqo), (19, ane)]) (abh ⟨baj, a73, trivial⟩) (fn := Try.f59) rfl rfl rfl rfl fun hw hs => ?_
  repeat' ((conv => whnf); first | with_reducible (first | refine go1 (fun j q h => ?_) fun h => ?_ | refine go2 ⟨rfl, rfl⟩ (fun h => ?_) fun j h => ?_ | refine go2 ?_ (fun h => ?_) fun j h => ?_ | refine goQ ?_ (fun h => ?_) fun h => ?_) | refine go3 ?_ ?_ | refine go4 ?_ ?_ | refine go5 ?_ | ((first | refine go6 ?_ ?_ | refine go7 ?_ ?_ | refine go8 ?_ ?_ | refine go9 ?_ ?_ | refine goA ?_ ?_) <;> intro h) | with_reducible (first | refine aai.mk _ rfl ?_ | refine goB ?_ fun hc => ?_ | refine goC ?_ fun hc => ?_ | refine goD ?_ fun hc => ?_ | refine goE ?_ fun hc => ?_ | refine goF ?_ ?_ | refine goG ?_ ?_ | refine goH ?_ fun b hb => ?_) | refine goI ?_ | refine goJ ?_ ?_ | refine goK ?_ ?_ ?_ | refine goL ?_ ?_ ?_ ?_ | refine goM ?_ ?_ ?_ ?_ ?_ | refine goN ?_ ?_ | refine goO ?_ ?_ | with_reducible refine goP ?_)
  all_goals try conv => whnf
  all_goals try (refine aac.mk ?_; try dsimp only)
  refine abt.mk (Nat × Nat × Cu × List Tk) (fun | (i, n, c, acc) => (i + n = s.length + 1 ∧ c.ok ∧ c.s = s ∧ c.c = 0) ∧ c.e - c.p + 1 ≤ n ∧ acc.length ≤ c.p ∧ aeb (.new s) = (acc ++ (aez n c).1, (aez n c).2))
    (fun | (i, n, c, acc) => ⟨40, [(0, .str s), (2, .ptr 0 0), (3, .ptr 1 0), (4, .buf 2), (5, .int .i64 i)], [.cells [.list true 0 [], .int .i64 0], .cells (eC c), .buf 2 0 (acc.map vT)], [2]⟩) (fun x => x.2.1) [.tm 4 2] (0, s.length + 1, .new s, [])
    ⟨⟨by omega, azl s, rfl, rfl⟩, by show s.length - 0 + 1 ≤ s.length + 1; omega, Nat.zero_le _, rfl⟩ ?_ (fun ⟨i, n, c, acc⟩ ⟨⟨hin, hk, hs, h0⟩, hn, ha, he⟩ _ _ => ?_)
  · refine Go.VG.Sub.mk rfl ?_ ?_ ?_ ?_ <;> (repeat' first | trivial | rfl | exact eqS _ _ | apply And.intro | apply eqA | apply eqB | apply eqC | apply eqD | apply eqE | apply eqF | apply eqG | apply eqH | apply eqI)
  obtain ⟨n, rfl⟩ : ∃ m, n = m + 1 := ⟨n - 1, by omega⟩
  rw [aez] at he
  have on := fun h => ali hk h
  have hp1 := hk.1
  have hp2 := hk.2
  have hsl : c.s.length ≤ 10000000 := by rw [hs]; exact hp
  have hml : (acc.map vT).length = acc.length := List.length_map _
  repeat' ((conv => whnf); first | with_reducible (first | refine go1 (fun j q h => ?_) fun h => ?_ | refine go2 ⟨rfl, rfl⟩ (fun h => ?_) fun j h => ?_ | refine go2 ?_ (fun h => ?_) fun j h => ?_ | refine goQ ?_ (fun h => ?_) fun h => ?_) | refine go3 ?_ ?_ | refine go4 ?_ ?_ | refine go5 ?_ | ((first | refine go6 ?_ ?_ | refine go7 ?_ ?_ | refine go8 ?_ ?_ | refine go9 ?_ ?_ | refine goA ?_ ?_) <;> intro h) | with_reducible (first | refine aai.mk _ rfl ?_ | refine goB ?_ fun hc => ?_ | refine goC ?_ fun hc => ?_ | refine goD ?_ fun hc => ?_ | refine goE ?_ fun hc => ?_ | refine goF ?_ ?_ | refine goG ?_ ?_ | refine goH ?_ fun b hb => ?_) | refine goI ?_ | refine goJ ?_ ?_ | refine goK ?_ ?_ ?_ | refine goL ?_ ?_ ?_ ?_ | refine goM ?_ ?_ ?_ ?_ ?_ | refine goN ?_ ?_ | refine goO ?_ ?_ | with_reducible refine goP ?_)
  all_goals try conv => whnf
  all_goals try (refine aac.mk ?_; try dsimp only)
  all_goals (try simp only [aa3, ah0, akw, aaa, a80] at *)
  all_goals first
    | (exact acp)
    | (exact aco)
    | (refine stay ?_)
    | (first | trivial | omega | (simp (discharger := omega) only [wR]; omega) | (simp only [lnS]; omega) | (simp (discharger := omega) [-List.getD_eq_getElem?_getD, wR] <;> omega)) | skip
  all_goals (try simp only [aa3] at *)
  · have z : c.aan.1.c = 0 := by assumption
    have k0 : c.aan.2.k = 0 := UInt8.toNat_inj.1 (by show _ = 0; omega)
    rw [if_neg (by omega), if_pos k0, List.append_nil] at he
    rw [he, z]
    refine aa9.mk [.frz 2] ?_ <;> (repeat' first | trivial | rfl | exact eqS _ _ | apply And.intro | apply eqA | apply eqB | apply eqC | apply eqD | apply eqE | apply eqF | apply eqG | apply eqH | apply eqI)
  · have z : c.aan.1.c = 0 := by assumption
    have k0 : c.aan.2.k ≠ 0 := fun e => by
      exact absurd (show ((c.aan.2.k.toNat : Nat) : Int) = 0 by rw [e]; rfl) (by assumption)
    obtain ⟨o1, o2, o3, o4, o5, o6⟩ := on z
    have o6 := o6 k0
    have o7 := o1.1
    rw [if_neg (by omega), if_neg k0] at he
    refine ⟨[], (i + 1, n, c.aan.1, acc ++ [c.aan.2]), ⟨⟨by show i + 1 + n = s.length + 1; omega, o1, o2.trans hs, z⟩, by show c.aan.1.e - c.aan.1.p + 1 ≤ n; omega, by show (acc ++ [c.aan.2]).length ≤ c.aan.1.p; rw [List.length_append, List.length_singleton]; omega, by show _ = ((acc ++ [c.aan.2]) ++ _, _); rw [List.append_assoc]; exact he⟩, ?_, by show n < n + 1; omega⟩
    refine Go.VG.Sub.mk rfl ?_ ?_ ?_ ?_ <;> (repeat' first | trivial | rfl | exact eqS _ _ | apply And.intro | apply eqA | apply eqB | apply eqC | apply eqD | apply eqE | apply eqF | apply eqG | apply eqH | apply eqI)
    all_goals first
      | (first | omega | (simp (discharger := omega) only [wR]; omega) | (simp only [lnS]; omega) | (simp (discharger := omega) [-List.getD_eq_getElem?_getD, wR] <;> omega))
      | simp
  · have z : c.aan.1.c ≠ 0 := by assumption
    rw [if_pos z, List.append_nil] at he
    rw [he]
    refine aa9.mk [.frz 2] ?_ <;> (repeat' first | trivial | rfl | exact eqS _ _ | apply And.intro | apply eqA | apply eqB | apply eqC | apply eqD | apply eqE | apply eqF | apply eqG | apply eqH | apply eqI)
  · exfalso; omega
def aj4 : Sm := fun args σ => match args, σ with
  | [.str s], [] => some (s.length ≤ 10000000, eSx (aeb (.new s)), none)
  | _, _ => none
theorem azc : SOK 59 aj4 := by
  intro args sg pre x r he hp
  unfold aj4 at he
  split at he <;> cases he
  · exact atq (hp := hp) ..
theorem ayy (s : Sx) (hp : True) : OK 84 ([eSx s]) ([]) (.tuple [.agg (eT (if stE s = 0 then stT s else default)), eSx (stR s), .int .i64 (stE s)]) (none) := by
  refine aa0 (C := cx []) (abh trivial) (fn := Try.f84) rfl rfl rfl rfl fun hw hs => ?_
  have hml : (s.1.map vT).length = s.1.length := List.length_map _
  have he0 : s.1.length > 0 → stE s = 0 := fun h => by unfold stE; rw [if_pos h]
  have he1 : ¬ s.1.length > 0 → s.2 = 0 → stE s = 1 := fun h h2 => by unfold stE; rw [if_neg h, if_pos h2]
  have he2 : ¬ s.1.length > 0 → ¬ s.2 = 0 → stE s = s.2 := fun h h2 => by unfold stE; rw [if_neg h, if_neg h2]
  have hnil : ¬ s.1.length > 0 → s.1 = [] := fun h => by
    cases hs : s.1 with
    | nil => rfl
    | cons a b => exfalso; rw [hs] at h; simp at h
  repeat' ((conv => whnf); first | with_reducible (first | refine go1 (fun j q h => ?_) fun h => ?_ | refine go2 ⟨rfl, rfl⟩ (fun h => ?_) fun j h => ?_ | refine go2 ?_ (fun h => ?_) fun j h => ?_ | refine goQ ?_ (fun h => ?_) fun h => ?_) | refine go3 ?_ ?_ | refine go4 ?_ ?_ | refine go5 ?_ | ((first | refine go6 ?_ ?_ | refine go7 ?_ ?_ | refine go8 ?_ ?_ | refine go9 ?_ ?_ | refine goA ?_ ?_) <;> intro h) | with_reducible (first | refine aai.mk _ rfl ?_ | refine goB ?_ fun hc => ?_ | refine goC ?_ fun hc => ?_ | refine goD ?_ fun hc => ?_ | refine goE ?_ fun hc => ?_ | refine goF ?_ ?_ | refine goG ?_ ?_ | refine goH ?_ fun b hb => ?_) | refine goI ?_ | refine goJ ?_ ?_ | refine goK ?_ ?_ ?_ | refine goL ?_ ?_ ?_ ?_ | refine goM ?_ ?_ ?_ ?_ ?_ | refine goN ?_ ?_ | refine goO ?_ ?_ | with_reducible refine goP ?_)
  all_goals try conv => whnf
  all_goals try (refine aac.mk ?_; try dsimp only)
  all_goals (try simp only [aa3, ah0, akw, aaa, a80] at *)
  all_goals first
    | (exact acp)
    | (exact aco)
    | (refine stay ?_)
    | (first | trivial | omega | (simp (discharger := omega) only [wR]; omega) | (simp only [lnS]; omega) | (simp (discharger := omega) [-List.getD_eq_getElem?_getD, wR] <;> omega)) | skip
  · rw [he0 (by omega), if_pos rfl]
    refine aa9.mk [] ?_ <;> (repeat' first | trivial | rfl | exact eqS _ _ | apply And.intro | apply eqA | apply eqB | apply eqC | apply eqD | apply eqE | apply eqF | apply eqG | apply eqH | apply eqI)
    show (s.1.map vT).drop 1 = (s.1.drop 1).map vT
    rw [List.map_drop]
  · rw [he1 (by omega) (by omega), if_neg (by decide)]
    unfold stR
    rw [hnil (by omega)]
    refine aa9.mk [] ?_ <;> (repeat' first | trivial | rfl | exact eqS _ _ | apply And.intro | apply eqA | apply eqB | apply eqC | apply eqD | apply eqE | apply eqF | apply eqG | apply eqH | apply eqI)
  · rw [he2 (by omega) (by omega), if_neg (by omega)]
    unfold stR
    rw [hnil (by omega)]
    refine aa9.mk [] ?_ <;> (repeat' first | trivial | rfl | exact eqS _ _ | apply And.intro | apply eqA | apply eqB | apply eqC | apply eqD | apply eqE | apply eqF | apply eqG | apply eqH | apply eqI)
def afp : Sm := fun args σ => match args, σ with
  | [.agg [.list false 2 l_s, .int .i64 e_s]], [] => some (okT l_s ∧ (True), .tuple [.agg (eT (if stE ((upT l_s, e_s)) = 0 then stT ((upT l_s, e_s)) else default)), eSx (stR ((upT l_s, e_s))), .int .i64 (stE ((upT l_s, e_s)))], none)
  | _, _ => none
theorem ald : SOK 84 afp := by
  intro args sg pre x r he hp
  unfold afp at he
  split at he <;> cases he
  · rw [a25 (hp).1]; exact ayy (hp := hp.2) ..
-- #name r13within truchmanref13.within
theorem atr (k : UInt8) (key : List UInt8) (L : List Nd) (hp : L.length ≤ 100000000) : OK 86 [bv k, .str key, .buf 0] [eNb L] (.buf 1) (some [.dead, eNb (⟨k, key, [], L.length + 1⟩ :: L)]) := by
  refine aa0 (C := cxl [] [13]) (bdf trivial) (fn := Try.f86) rfl rfl rfl rfl fun hw hs => ?_
  have hl : (L.map eNd).length = L.length := List.length_map _
  have hw1 : IntKind.i64.wrap ((L.length : Int) + 1) = (L.length : Int) + 1 := by rw [a27]; omega
  repeat' ((conv => whnf); first | with_reducible (first | refine go1 (fun j q h => ?_) fun h => ?_ | refine go2 ⟨rfl, rfl⟩ (fun h => ?_) fun j h => ?_ | refine go2 ?_ (fun h => ?_) fun j h => ?_ | refine goQ ?_ (fun h => ?_) fun h => ?_) | refine go3 ?_ ?_ | refine go4 ?_ ?_ | refine go5 ?_ | ((first | refine go6 ?_ ?_ | refine go7 ?_ ?_ | refine go8 ?_ ?_ | refine go9 ?_ ?_ | refine goA ?_ ?_) <;> intro h) | with_reducible (first | refine aai.mk _ rfl ?_ | refine goB ?_ fun hc => ?_ | refine goC ?_ fun hc => ?_ | refine goD ?_ fun hc => ?_ | refine goE ?_ fun hc => ?_ | refine goF ?_ ?_ | refine goG ?_ ?_ | refine goH ?_ fun b hb => ?_) | refine goI ?_ | refine goJ ?_ ?_ | refine goK ?_ ?_ ?_ | refine goL ?_ ?_ ?_ ?_ | refine goM ?_ ?_ ?_ ?_ ?_ | refine goN ?_ ?_ | refine goO ?_ ?_ | with_reducible refine goP ?_)
  all_goals try conv => whnf
  all_goals try (refine aac.mk ?_; try dsimp only)
  all_goals (try simp only [hl, hw1] at *)
  all_goals (try simp only [aa3, ah0, akw, aaa, a80] at *)
  all_goals first
    | (exact acp)
    | (exact aco)
    | (refine stay ?_)
    | (first | trivial | omega | (simp (discharger := omega) only [wR]; omega) | (simp only [lnS]; omega) | (simp (discharger := omega) [-List.getD_eq_getElem?_getD, wR] <;> omega)) | skip
  refine aa9.mk [] ?_ <;> (repeat' first | trivial | rfl | exact eqS _ _ | apply And.intro | apply eqA | apply eqB | apply eqC | apply eqD | apply eqE | apply eqF | apply eqG | apply eqH | apply eqI)
def aj5 : Sm := fun args σ => match args, σ with
  | [.int .u8 k, .str key, .buf 0], [.buf 4 0 l] => some (okN l ∧ (0 ≤ k ∧ k ≤ 255) ∧ l.length ≤ 100000000, .buf 1, some [.dead, eNb (⟨byte k, key, [], l.length + 1⟩ :: upN l)])
  | _, _ => none
theorem azd : SOK 86 aj5 := by
  intro args sg pre x r he hp
  unfold aj5 at he
  split at he <;> cases he
  rename_i k key l
  have e : (upN l).length = l.length := by have h := congrArg List.length hp.1; rw [List.length_map] at h; exact h.symm
  have h := atr (byte k) key (upN l) (by rw [e]; exact hp.2.2)
  rw [af3 hp.2.1, a24 hp.1, ← e]
  exact h
theorem a3d (l : List (List UInt8)) (x : List UInt8) (hp : l.length ≤ 100000000) : OK 104 ([.buf 0, .str x]) ([eKb l]) (.bool (decide (x ∈ l))) (none) := by
  refine aa0 (C := cx []) (abh trivial) (fn := Try.f104) rfl rfl rfl rfl fun hw hs => ?_
  have hl : (l.map V.str).length = l.length := List.length_map _
  repeat' ((conv => whnf); first | with_reducible (first | refine go1 (fun j q h => ?_) fun h => ?_ | refine go2 ⟨rfl, rfl⟩ (fun h => ?_) fun j h => ?_ | refine go2 ?_ (fun h => ?_) fun j h => ?_ | refine goQ ?_ (fun h => ?_) fun h => ?_) | refine go3 ?_ ?_ | refine go4 ?_ ?_ | refine go5 ?_ | ((first | refine go6 ?_ ?_ | refine go7 ?_ ?_ | refine go8 ?_ ?_ | refine go9 ?_ ?_ | refine goA ?_ ?_) <;> intro h) | with_reducible (first | refine aai.mk _ rfl ?_ | refine goB ?_ fun hc => ?_ | refine goC ?_ fun hc => ?_ | refine goD ?_ fun hc => ?_ | refine goE ?_ fun hc => ?_ | refine goF ?_ ?_ | refine goG ?_ ?_ | refine goH ?_ fun b hb => ?_) | refine goI ?_ | refine goJ ?_ ?_ | refine goK ?_ ?_ ?_ | refine goL ?_ ?_ ?_ ?_ | refine goM ?_ ?_ ?_ ?_ ?_ | refine goN ?_ ?_ | refine goO ?_ ?_ | with_reducible refine goP ?_)
  all_goals try conv => whnf
  all_goals try (refine aac.mk ?_; try dsimp only)
  all_goals (try simp only [aa3, ah0, akw, aaa, a80] at *)
  all_goals first
    | (exact acp)
    | (exact aco)
    | (refine stay ?_)
    | (first | trivial | omega | (simp (discharger := omega) only [wR]; omega) | (simp only [lnS]; omega) | (simp (discharger := omega) [-List.getD_eq_getElem?_getD, wR] <;> omega)) | skip
  refine abt.mk Nat (fun i => i ≤ l.length ∧ x ∉ l.take i) (fun i => ⟨18, [(0, .buf 0), (1, .str x), (5, .int .i64 i)], [eKb l], []⟩) (fun i => l.length - i) [] 0 ⟨Nat.zero_le _, by simp⟩ ?_ (fun i ⟨hi, hx⟩ _ _ => ?_)
  · refine Go.VG.Sub.mk rfl ?_ ?_ ?_ ?_ <;> (repeat' first | trivial | rfl | exact eqS _ _ | apply And.intro | apply eqA | apply eqB | apply eqC | apply eqD | apply eqE | apply eqF | apply eqG | apply eqH | apply eqI)
  have hnx : ∀ h : i < l.length, l.take (i + 1) = l.take i ++ [l[i]] := fun h => by rw [List.take_add_one, List.getElem?_eq_getElem h]; rfl
  repeat' ((conv => whnf); first | with_reducible (first | refine go1 (fun j q h => ?_) fun h => ?_ | refine go2 ⟨rfl, rfl⟩ (fun h => ?_) fun j h => ?_ | refine go2 ?_ (fun h => ?_) fun j h => ?_ | refine goQ ?_ (fun h => ?_) fun h => ?_) | refine go3 ?_ ?_ | refine go4 ?_ ?_ | refine go5 ?_ | ((first | refine go6 ?_ ?_ | refine go7 ?_ ?_ | refine go8 ?_ ?_ | refine go9 ?_ ?_ | refine goA ?_ ?_) <;> intro h) | with_reducible (first | refine aai.mk _ rfl ?_ | refine goB ?_ fun hc => ?_ | refine goC ?_ fun hc => ?_ | refine goD ?_ fun hc => ?_ | refine goE ?_ fun hc => ?_ | refine goF ?_ ?_ | refine goG ?_ ?_ | refine goH ?_ fun b hb => ?_) | refine goI ?_ | refine goJ ?_ ?_ | refine goK ?_ ?_ ?_ | refine goL ?_ ?_ ?_ ?_ | refine goM ?_ ?_ ?_ ?_ ?_ | refine goN ?_ ?_ | refine goO ?_ ?_ | with_reducible refine goP ?_)
  all_goals try conv => whnf
  all_goals try (refine aac.mk ?_; try dsimp only)
  all_goals (try simp only [aa3, ah0, akw, aaa, a80] at *)
  all_goals first
    | (exact acp)
    | (exact aco)
    | (refine stay ?_)
    | (first | trivial | omega | (simp (discharger := omega) only [wR]; omega) | (simp only [lnS]; omega) | (simp (discharger := omega) [-List.getD_eq_getElem?_getD, wR] <;> omega)) | skip
  · have hm : x ∈ l := by
      have h := ‹l.getD i default = x›
      rw [List.getD_eq_getElem?_getD, List.getElem?_eq_getElem (by omega)] at h
      rw [← h]
      exact List.getElem_mem _
    rw [decide_eq_true hm]
    refine aa9.mk [] ?_ <;> (repeat' first | trivial | rfl | exact eqS _ _ | apply And.intro | apply eqA | apply eqB | apply eqC | apply eqD | apply eqE | apply eqF | apply eqG | apply eqH | apply eqI)
  · refine ⟨[], i + 1, ⟨by omega, ?_⟩, ?_, by omega⟩
    · rw [hnx (by omega), List.mem_append, List.mem_singleton]
      rintro (q | q)
      · exact hx q
      · have h := ‹¬ l.getD i default = x›
        rw [List.getD_eq_getElem?_getD, List.getElem?_eq_getElem (by omega)] at h
        exact h q.symm
    refine Go.VG.Sub.mk rfl ?_ ?_ ?_ ?_ <;> (repeat' first | trivial | rfl | exact eqS _ _ | apply And.intro | apply eqA | apply eqB | apply eqC | apply eqD | apply eqE | apply eqF | apply eqG | apply eqH | apply eqI)
    all_goals (first | omega | (simp (discharger := omega) only [wR]; omega) | (simp only [lnS]; omega) | (simp (discharger := omega) [-List.getD_eq_getElem?_getD, wR] <;> omega))
  · have hm : ¬ x ∈ l := by rw [List.take_of_length_le (by omega)] at hx; exact hx
    rw [decide_eq_false hm]
    refine aa9.mk [] ?_ <;> (repeat' first | trivial | rfl | exact eqS _ _ | apply And.intro | apply eqA | apply eqB | apply eqC | apply eqD | apply eqE | apply eqF | apply eqG | apply eqH | apply eqI)
def am0 : Sm := fun args σ => match args, σ with
  | [.buf 0, .str x], [.buf 1 0 l_l] => some (okK l_l ∧ ((upK l_l).length ≤ 100000000), .bool (decide (x ∈ (upK l_l))), none)
  | _, _ => none
theorem a0w : SOK 104 am0 := by
  intro args sg pre x r he hp
  unfold am0 at he
  split at he <;> cases he
  · rw [viewKb (hp).1]; exact a3d (hp := hp.2) ..
end Go.Proofs.Ytllncocibkgjkaa
