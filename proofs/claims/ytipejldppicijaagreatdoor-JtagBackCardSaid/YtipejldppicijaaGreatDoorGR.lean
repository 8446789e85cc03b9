/-
  A part of the proof.
-/
import Derived.Test.YtipejldppicijaaGreatDoorGN
import Derived.Test.YtipejldppicijaaGreatDoorCRh
import Derived.Test.YtipejldppicijaaGreatDoorGF
set_option linter.unusedSimpArgs false
set_option linter.unusedVariables false
set_option maxHeartbeats 4000000
namespace Go.Proofs.YtipejldppicijaaGreatDoor
open Go Go.VG
set_option maxRecDepth 100000
theorem N2 {out : List UInt8} {last id n : Int} (hi : bp id) (hn : 0 ≤ n ∧ n ≤ 4) :
   CS.whole ⟨out, [⟨false, last, 0, 0⟩], 0⟩ id 5 n = ⟨out ++ b6 last id (byte 5) ++ aF (cA n), [⟨false, id, 0, 0⟩], 0⟩ := by
 have hf : bc n 32 = 0 := by
  unfold bc gZ
  rw [if_pos (decide_eq_true ?_)]
  rw [show bO (32 - 1) = 2147483648 from rfl]; omega
 unfold CS.whole
 rw [if_neg (by simp), if_neg (by decide), show c7 5 = 32 from rfl, if_neg (by rw [hf]; decide), og (by decide) hi, if_neg (by decide)]
theorem zz {out : List UInt8} {last id : Int} (b : Bool) (hi : bp id) :
   CS.flag ⟨out, [⟨false, last, 0, 0⟩], 0⟩ id b = ⟨out ++ b6 last id (byte (if b = true then 1 else 2)), [⟨false, id, 0, 0⟩], 0⟩ := by
 have e : ∀ k : Int, k = 1 ∨ k = 2 → CS.hC ⟨out, [⟨false, last, 0, 0⟩], 0⟩ id k = ⟨out ++ b6 last id (byte k), [⟨false, id, 0, 0⟩], 0⟩ := fun k hk => by
  unfold CS.hC
  rw [vI (by omega) hi, if_pos rfl, if_neg (by simp [CS.top])]
 cases b with
 | true => exact e 1 (.inl rfl)
 | false => exact e 2 (.inr rfl)
theorem BL (s : CS) (id b : Int) : s.op ⟨100, id, 0, 0, b, []⟩ = s.put id 7 (low 8 b.toNat) := rfl
theorem BM (s : CS) (id : Int) : s.op ⟨102, id, 0, 0, 0, []⟩ = s.flag id false := rfl
theorem BN (s : CS) (id : Int) : s.op ⟨102, id, 1, 0, 0, []⟩ = s.flag id true := rfl
theorem BO (s : CS) (id n k : Int) : s.op ⟨110, id, n, k, 0, []⟩ = s.whole id k n := rfl
theorem sv (s : CS) (id : Int) (t : List UInt8) : s.op ⟨115, id, 0, 0, 0, t⟩ = s.put id 8 (aF t.length ++ t) := rfl
theorem MP {v : ae} (h : v.kind = 5) : v.text.length ≤ (text v).length := by
 unfold text simple
 rw [if_neg (by omega), if_neg (by omega), if_neg (by omega), if_neg (by omega), if_neg (by omega), if_pos h, gm]; omega
theorem K9 (v : ae) (tx o : List UInt8) (hv : v.ok) (ht : v.text.length ≤ 90000000) (hx : tx.length ≤ 90000000) : ∃ x i, eF v tx ⟨o, [⟨false, 2, 0, 0⟩], 0⟩ = ⟨o ++ x, [⟨false, i, 0, 0⟩], 0⟩ ∧ (x.length ≤ 12 ∨ (v.kind = 5 ∧ x.length ≤ 11 + v.text.length) ∨ x.length ≤ 11 + tx.length) := by
 have hn := (ok_eq hv).2.1
 unfold eF du
 by_cases h4 : v.kind = 4
 . rw [if_pos h4]
   refine ⟨b6 2 4 (byte 7) ++ low 8 v.bits.toNat, 4, ?_, .inl ?_⟩
   . rw [BL, og (by decide) (by unfold bp; decide), List.append_assoc]
   . rw [List.length_append, fq]; exact (by decide : (b6 2 4 (byte 7)).length + 8 ≤ 12)
 rw [if_neg h4]
 by_cases h2 : v.kind = 2 ∧ v.num = 0
 . rw [if_pos h2]
   exact ⟨b6 2 5 (byte 2), 5, by rw [BM]; exact zz false (by unfold bp; decide), .inl (by decide)⟩
 rw [if_neg h2]
 by_cases h2 : v.kind = 2
 . rw [if_pos h2]
   exact ⟨b6 2 5 (byte 1), 5, by rw [BN]; exact zz true (by unfold bp; decide), .inl (by decide)⟩
 rw [if_neg h2]
 by_cases h3 : v.kind = 3
 . rw [if_pos h3]
   refine ⟨b6 2 6 (byte 6) ++ aF (cA v.num), 6, ?_, .inl ?_⟩
   . rw [BO, N3 (by unfold bp; decide) hn, List.append_assoc]
   . have := (dM (iz hn)).2
     rw [List.length_append, show (b6 2 6 (byte 6)).length = 1 by decide]; omega
 rw [if_neg h3]
 by_cases h5 : v.kind = 5
 . rw [if_pos h5]
   refine ⟨b6 2 7 (byte 8) ++ (aF v.text.length ++ v.text), 7, ?_, .inr (.inl ⟨h5, ?_⟩)⟩
   . rw [sv, og (by decide) (by unfold bp; decide), List.append_assoc]
   . have := (dM (u := v.text.length) (by omega)).2
     rw [List.length_append, List.length_append, show (b6 2 7 (byte 8)).length = 1 by decide]; omega
 rw [if_neg h5]
 refine ⟨b6 2 3 (byte 8) ++ (aF tx.length ++ tx), 3, ?_, .inr (.inr ?_)⟩
 . rw [sv, og (by decide) (by unfold bp; decide), List.append_assoc]
 . have := (dM (u := tx.length) (by omega)).2
   rw [List.length_append, List.length_append, show (b6 2 3 (byte 8)).length = 1 by decide]; omega
theorem Lk (key : List UInt8) (v : ae) (hv : v.ok) (hk : key.length ≤ 30000000) (ht : v.text.length ≤ 30000000) (hx : (text v).length ≤ 40000000) :
   ((CS.new.ops (cL 0 key v (text v))).done).2 = 0 ∧ ((CS.new.ops (cL 0 key v (text v))).done).1.length ≤ 64 + 6 * key.length + 12 * (text v).length := by
 have e1 : CS.new.struct 0 = ⟨[], [⟨false, 0, 0, 0⟩], 0⟩ := rfl
 have hq := oH v.kind
 have hz := (dM (iz (n := cz v.kind) (by omega))).2
 have hkv := (dM (u := key.length) (by omega)).2
 rw [lj, e1, og (by decide) (by unfold bp; decide), N2 (by unfold bp; decide) hq]
 obtain ⟨x, i, e, hl⟩ := K9 v (text v) ([] ++ b6 0 1 (byte 8) ++ (aF key.length ++ key) ++ b6 1 2 (byte 5) ++ aF (cA (cz v.kind))) hv (by omega) (by omega)
 have e : eF v (text v) ⟨[] ++ b6 0 1 (byte 8) ++ (aF key.length ++ key) ++ b6 1 2 (byte 5) ++ aF (cA (cz v.kind)), [⟨false, 2, 0, 0⟩], 0⟩ = _ := e
 rw [e, uU, rH]
 refine ⟨rfl, ?_⟩
 have hx2 : x.length ≤ 12 + (text v).length := by
  rcases hl with hl | ⟨h5, hl⟩ | hl
  . omega
  . have := MP h5; omega
  . omega
 simp only [List.length_append, List.length_nil, List.length_singleton, show (b6 0 1 (byte 8)).length = 1 by decide, show (b6 1 2 (byte 5)).length = 1 by decide]
 omega
end Go.Proofs.YtipejldppicijaaGreatDoor
namespace Go.Proofs.YtipejldppicijaaGreatDoor
open Go Go.VG
set_option maxRecDepth 100000
def RV (d : Nat) (w : Fw) (f : Fd) : Prop := ∀ (s : List UInt8) (p : Nat), Rd s w.x p → bS d ⟨w.id, w.k, 0, 0, [], []⟩ (cu s p) = (f, cu s (p + w.x.length))
theorem RV.lO {d : Nat} {id : Int} {t : List UInt8} (ht : t.length ≤ 90000000) : RV d ⟨id, 8, aF t.length ++ t⟩ ⟨id, 8, 0, 0, t, []⟩ := fun s p hr => by
 unfold bS
 dsimp only
 rw [if_neg (by decide), if_neg (by decide), if_neg (by decide), if_neg (by decide), if_neg (by decide), if_neg (by decide), if_neg (by decide), if_pos rfl, Db (by omega) hr]
theorem RV.num {d : Nat} {id k n : Int} (hk : k = 5 ∨ k = 6) (hf : bc n (c7 k) = 0) (hn : -9223372036854775808 ≤ n ∧ n ≤ 9223372036854775807) : RV d ⟨id, k, aF (cA n)⟩ ⟨id, k, n, 0, [], []⟩ := fun s p hr => by
 have hv := rb (v := cA n) (by have := iz hn; omega) hr
 have e : ∀ b : Int, b = c7 k → (cu s p).dL b = (n, cu s (p + (aF (cA n)).length)) := fun b hb => by
  unfold Cu.dL
  rw [hv]
  dsimp only
  rw [if_neg (show ¬ (cu s _).c ≠ 0 from fun h => h rfl), DI, hb, if_neg (show ¬ bc n (c7 k) ≠ 0 from fun q => q hf)]
 unfold bS
 dsimp only
 rcases hk with rfl | rfl
 . rw [if_neg (by decide), if_neg (by decide), if_neg (by decide), if_neg (by decide), if_pos rfl, e 32 rfl]
 . rw [if_neg (by decide), if_neg (by decide), if_neg (by decide), if_neg (by decide), if_neg (by decide), if_pos rfl, e 64 rfl]
theorem RV.g9 {d : Nat} {id : Int} {u : Nat} (hu : u < 18446744073709551616) : RV d ⟨id, 7, low 8 u⟩ ⟨id, 7, 0, u, [], []⟩ := fun s p hr => by
 unfold bS
 dsimp only
 rw [if_neg (by decide), if_neg (by decide), if_neg (by decide), if_neg (by decide), if_neg (by decide), if_neg (by decide), if_pos rfl, KE hu hr]
theorem RV.yes {d : Nat} {id : Int} : RV d ⟨id, 1, []⟩ ⟨id, 1, 1, 0, [], []⟩ := fun s p _ => by
 unfold bS
 dsimp only
 rw [if_pos rfl]; rfl
theorem RV.no {d : Nat} {id : Int} : RV d ⟨id, 2, []⟩ ⟨id, 2, 0, 0, [], []⟩ := fun s p _ => by
 unfold bS
 dsimp only
 rw [if_neg (by decide), if_pos rfl]; rfl
theorem RV.raw {d : Nat} {id k : Int} {x : List UInt8} (hk : k = 9 ∨ k = 12) (h : VT d k x) : RV d ⟨id, k, x⟩ ⟨id, k, 0, 0, [], x⟩ := fun s p hr => by
 have hs := h.skip s p hr
 have ht := hr.take
 have e : jT d k (cu s p) = x := by
  unfold jT
  rw [hs, if_neg (fun q => q rfl)]
  show (s.take (p + x.length)).drop p = x
  rw [List.drop_take, Nat.add_sub_cancel_left]; exact ht.1
 unfold bS
 dsimp only
 rcases hk with rfl | rfl
 . rw [if_neg (by decide), if_neg (by decide), if_neg (by decide), if_neg (by decide), if_neg (by decide), if_neg (by decide), if_neg (by decide), if_neg (by decide), e, hs]
 . rw [if_neg (by decide), if_neg (by decide), if_neg (by decide), if_neg (by decide), if_neg (by decide), if_neg (by decide), if_neg (by decide), if_neg (by decide), e, hs]
theorem Cg {s : List UInt8} {d : Nat} : ∀ (l : List (Fw × Fd)) (a : Int) (p n : Nat) (acc : List Fd), (∀ f ∈ l, (bp f.1.id ∧ kR f.1.k) ∧ RV d f.1 f.2) → l.length < n → Rd s (dd a (l.map Prod.fst) ++ [0]) p → gz d n (cu s p) a acc = some (acc ++ l.map Prod.snd, cu s (p + (dd a (l.map Prod.fst) ++ [0]).length))
 | l, a, p, 0, _, _, h, _ => absurd h (Nat.not_lt_zero _)
 | [], a, p, n + 1, acc, _, _, hr => by
   have hr : Rd s [0] p := hr
   rw [gz, zF hr, if_pos rfl]; simp [dd]
 | f :: l, a, p, n + 1, acc, h1, hn, hr => by
   have e : dd a ((f :: l).map Prod.fst) ++ [0] = b6 a f.1.id (byte f.1.k) ++ (f.1.x ++ (dd f.1.id (l.map Prod.fst) ++ [0])) := by
    show (b6 a f.1.id (byte f.1.k) ++ (f.1.x ++ dd f.1.id (l.map Prod.fst))) ++ [0] = _
    simp only [List.append_assoc]
   rw [e] at hr ⊢
   obtain ⟨r1, r2⟩ := hr.app
   obtain ⟨r2, r3⟩ := r2.app
   obtain ⟨⟨i1, i2⟩, i4⟩ := h1 f List.mem_cons_self
   have i3 := i2
   unfold kR at i3
   rw [gz, zE i2 i1 r1]
   dsimp only
   rw [if_neg (by omega), i4 _ _ r2]
   have hr' := Cg l f.1.id _ n (acc ++ [f.2]) (fun y hy => h1 y (List.mem_cons_of_mem _ hy)) (by simp at hn; omega) r3
   refine hr'.trans ?_
   rw [List.append_assoc]
   refine congrArg (fun q => some (acc ++ (f :: l).map Prod.snd, cu s q)) ?_
   simp only [List.length_append]; omega
theorem Ch {d : Int} {l : List (Fw × Fd)} (hd : 0 ≤ d ∧ d < 32) (h : ∀ f ∈ l, (bp f.1.id ∧ kR f.1.k) ∧ RV (31 - d).toNat f.1 f.2) :
   bK d (dd 0 (l.map Prod.fst) ++ [0]) = (0, (dd 0 (l.map Prod.fst) ++ [0]).length, l.map Prod.snd) := by
 have hlen := uR (l.map Prod.fst) 0 (fun f hf => by
  obtain ⟨g, hg, rfl⟩ := List.mem_map.1 hf
  exact (h g hg).1)
 rw [List.length_map] at hlen
 have e := Cg (s := dd 0 (l.map Prod.fst) ++ [0]) l 0 0 ((dd 0 (l.map Prod.fst) ++ [0]).length + 1) [] h (by rw [List.length_append]; omega) ⟨[], [], by simp, rfl⟩
 unfold bK
 rw [if_neg (by omega)]
 have e : rp (31 - d).toNat (dd 0 (l.map Prod.fst) ++ [0]) = some _ := e
 rw [e]
 unfold ik
 dsimp only
 rw [if_pos (show (cu _ _).c = 0 from rfl), Nat.zero_add]; rfl
theorem zU {s : List UInt8} {d : Nat} : ∀ (xs : List (List UInt8)) (i p : Nat) (acc : List Fd), (∀ x ∈ xs, VT d 12 x) → Rd s xs.flatten p →
   ∃ L : List Fd, ep d 12 xs.length i (cu s p) acc = (acc ++ L, cu s (p + xs.flatten.length)) ∧ L.map Fd.raw = xs ∧ iC L = true
 | [], i, p, acc, _, _ => ⟨[], by simp [ep], rfl, rfl⟩
 | x :: xs, i, p, acc, h, hr => by
   rw [List.flatten_cons] at hr
   obtain ⟨r1, r2⟩ := hr.app
   obtain ⟨L, e, e2, e3⟩ := zU xs (i + 1) _ (acc ++ [⟨i, 12, 0, 0, [], x⟩]) (fun y hy => h y (List.mem_cons_of_mem _ hy)) r2
   refine ⟨⟨i, 12, 0, 0, [], x⟩ :: L, ?_, by rw [List.map_cons, e2], by unfold iC at e3 ⊢; rw [List.all_cons, e3]; rfl⟩
   rw [List.length_cons, ep, if_neg (show ¬ (cu s p).c ≠ 0 from fun q => q rfl), if_neg (by decide)]
   have hv := RV.raw (id := i) (.inr rfl) (h x List.mem_cons_self) s p r1
   dsimp only at hv
   rw [hv, e, List.append_assoc, List.flatten_cons, List.length_append, Nat.add_assoc]; rfl
theorem MB {d : Int} {xs : List (List UInt8)} (hd : 0 ≤ d ∧ d < 32) (hn : xs.length ≤ 2147483647) (h : ∀ x ∈ xs, VT (31 - d).toNat 12 x) :
   strs [⟨5, 9, 0, 0, [], c9 xs.length (byte 12) ++ xs.flatten⟩] 5 d = (xs, 0) := by
 have r : Rd (c9 xs.length (byte 12) ++ xs.flatten) (c9 xs.length (byte 12) ++ xs.flatten) 0 := ⟨[], [], by simp, rfl⟩
 obtain ⟨r1, r2⟩ := r.app
 have hl := Bk (n := xs.length) (k := 12) (by unfold kR; decide) hn r1
 obtain ⟨L, e, e2, e3⟩ := zU (d := (31 - d).toNat) xs 0 _ [] h r2
 have hi : cr d (c9 xs.length (byte 12) ++ xs.flatten) = (0, L) := by
  unfold cr
  have hl : (Cu.new (c9 xs.length (byte 12) ++ xs.flatten)).bf = _ := hl
  rw [if_neg (by omega), hl]
  dsimp only
  rw [Int.toNat_natCast, e]
  unfold fj Cu.fin cu
  dsimp only
  rw [if_neg (by rw [if_neg (fun q => q rfl), if_neg (by rw [List.length_append]; omega)]; exact fun q => q rfl)]
  rfl
 have hf : bI [(⟨5, 9, 0, 0, [], c9 xs.length (byte 12) ++ xs.flatten⟩ : Fd)] 5 9 = some ⟨5, 9, 0, 0, [], c9 xs.length (byte 12) ++ xs.flatten⟩ := rfl
 rw [CZ hf (by rw [hi]) (by rw [hi]; exact e3), hi, e2]
def gq (v : ae) (tx : List UInt8) : Fw × Fd :=
 if v.kind = 4 then (⟨4, 7, low 8 v.bits.toNat⟩, ⟨4, 7, 0, v.bits.toNat, [], []⟩)
 else if v.kind = 2 ∧ v.num = 0 then (⟨5, 2, []⟩, ⟨5, 2, 0, 0, [], []⟩)
 else if v.kind = 2 then (⟨5, 1, []⟩, ⟨5, 1, 1, 0, [], []⟩)
 else if v.kind = 3 then (⟨6, 6, aF (cA v.num)⟩, ⟨6, 6, v.num, 0, [], []⟩)
 else if v.kind = 5 then (⟨7, 8, aF v.text.length ++ v.text⟩, ⟨7, 8, 0, 0, v.text, []⟩)
 else (⟨3, 8, aF tx.length ++ tx⟩, ⟨3, 8, 0, 0, tx, []⟩)
def lK (key : List UInt8) (v : ae) (tx : List UInt8) : List (Fw × Fd) :=
 [(⟨1, 8, aF key.length ++ key⟩, ⟨1, 8, 0, 0, key, []⟩), (⟨2, 5, aF (cA (cz v.kind))⟩, ⟨2, 5, cz v.kind, 0, [], []⟩), gq v tx]
def mY (key : List UInt8) (v : ae) (tx : List UInt8) : List UInt8 := dd 0 ((lK key v tx).map Prod.fst) ++ [0]
def u6 (key : List UInt8) (v : ae) (tx : List UInt8) : Tg :=
 if v.kind = 4 then ⟨key, 4, [], 0, v.bits.toNat⟩
 else if v.kind = 2 then ⟨key, 2, [], if v.num = 0 then 0 else 1, 0⟩
 else if v.kind = 3 then ⟨key, 3, [], v.num, 0⟩
 else if v.kind = 5 then ⟨key, 5, v.text, 0, 0⟩
 else ⟨key, 1, tx, 0, 0⟩
structure na (key : List UInt8) (v : ae) (tx : List UInt8) : Prop where
 ok : v.ok
 k : key.length ≤ 30000000
 t : v.text.length ≤ 30000000
 x : tx.length ≤ 40000000
theorem Ee {v : ae} (h : v.ok) : v.bits.toNat < 18446744073709551616 := by have := (ok_eq h).2.2.1; omega
theorem rQ {n : Int} (hn : 0 ≤ n ∧ n ≤ 4) : bc n 32 = 0 := by
 unfold bc gZ
 rw [if_pos (decide_eq_true ?_)]
 rw [show bO (32 - 1) = 2147483648 from rfl]; omega
theorem K8 {key : List UInt8} {v : ae} {tx : List UInt8} (h : na key v tx) (d : Nat) : (bp (gq v tx).1.id ∧ kR (gq v tx).1.k) ∧ RV d (gq v tx).1 (gq v tx).2 ∧ VT d (gq v tx).1.k (gq v tx).1.x := by
 have hn := (ok_eq h.ok).2.1
 have hb := Ee h.ok
 have ht := h.t
 have hx := h.x
 unfold gq
 repeat' split
 . exact ⟨⟨by unfold bp; dsimp only; decide, by unfold kR; dsimp only; decide⟩, RV.g9 hb, VT.g9 _ _ hb⟩
 . exact ⟨⟨by unfold bp; dsimp only; decide, by unfold kR; dsimp only; decide⟩, RV.no, VT.no _ _ (.inr rfl)⟩
 . exact ⟨⟨by unfold bp; dsimp only; decide, by unfold kR; dsimp only; decide⟩, RV.yes, VT.no _ _ (.inl rfl)⟩
 . exact ⟨⟨by unfold bp; dsimp only; decide, by unfold kR; dsimp only; decide⟩, RV.num (.inr rfl) (rR hn) hn, VT.num _ _ _ (.inr (.inr rfl)) (rR hn) hn⟩
 . exact ⟨⟨by unfold bp; dsimp only; decide, by unfold kR; dsimp only; decide⟩, RV.lO (by omega), VT.lO _ _ (by omega)⟩
 . exact ⟨⟨by unfold bp; dsimp only; decide, by unfold kR; dsimp only; decide⟩, RV.lO (by omega), VT.lO _ _ (by omega)⟩
theorem u5 {key : List UInt8} {v : ae} {tx : List UInt8} (h : na key v tx) (d : Nat) : ∀ f ∈ lK key v tx, (bp f.1.id ∧ kR f.1.k) ∧ RV d f.1 f.2 ∧ VT d f.1.k f.1.x := by
 have hk := h.k
 have hq := oH v.kind
 have hq2 : -9223372036854775808 ≤ cz v.kind ∧ cz v.kind ≤ 9223372036854775807 := by omega
 intro f hf
 simp only [lK, List.mem_cons, List.not_mem_nil, or_false] at hf
 rcases hf with rfl | rfl | rfl
 . exact ⟨⟨by unfold bp; dsimp only; decide, by unfold kR; dsimp only; decide⟩, RV.lO (by omega), VT.lO _ _ (by omega)⟩
 . exact ⟨⟨by unfold bp; dsimp only; decide, by unfold kR; dsimp only; decide⟩, RV.num (.inl rfl) (rQ hq) hq2, VT.num _ _ _ (.inr (.inl rfl)) (rQ hq) hq2⟩
 . exact K8 h d
theorem MK {key : List UInt8} {v : ae} {tx : List UInt8} (h : na key v tx) (d : Nat) : VT (d + 1) 12 (mY key v tx) := by
 refine VT.str d _ (fun f hf => ?_) (fun f hf => ?_)
 . obtain ⟨g, hg, rfl⟩ := List.mem_map.1 hf
   exact (u5 h d g hg).1
 . obtain ⟨g, hg, rfl⟩ := List.mem_map.1 hf
   exact (u5 h d g hg).2.2
theorem MH {key : List UInt8} {v : ae} {tx : List UInt8} (h : v.ok) : iY ((lK key v tx).map Prod.snd) = (u6 key v tx, 0) := by
 have hb := (ok_eq h).2.2.1
 unfold lK gq u6 cz
 by_cases h4 : v.kind = 4
 . simp only [h4]; rfl
 by_cases h2 : v.kind = 2
 . by_cases h0 : v.num = 0
   . simp only [h2, h0]; rfl
   . simp only [h2, h0]; rfl
 by_cases h3 : v.kind = 3
 . simp only [h3]; rfl
 by_cases h5 : v.kind = 5
 . simp only [h5]; rfl
 simp only [h4, h2, h3, h5, if_false, false_and]
 rfl
theorem Lg {key : List UInt8} {v : ae} {tx : List UInt8} (h : na key v tx) : dH 2 (mY key v tx) = (u6 key v tx, 0) := by
 have e := Ch (d := 2) (l := lK key v tx) (by decide) (fun f hf => ⟨(u5 h 0 f hf).1, (u5 h _ f hf).2.1⟩)
 have e : bK 2 (mY key v tx) = _ := e
 rw [C8 (by rw [e]), e]
 exact MH h.ok
theorem Bu {F : List Pl} {out : List UInt8} {last id k : Int} (hk : 1 ≤ k ∧ k ≤ 12) (hi : bp id) :
   CS.may ⟨out, F ++ [⟨false, last, 0, 0⟩], 0⟩ id k = (⟨out ++ b6 last id (byte k), F ++ [⟨false, id, 0, 0⟩], 0⟩, true) := by
 have hp := vY (last := last) hk hi
 unfold CS.may
 rw [xW, if_neg (by simp), if_neg (by simp), if_neg (by simp), if_neg (by dsimp only; omega)]
 dsimp only
 rw [Mj]
theorem mG {F : List Pl} {out b : List UInt8} {last id k : Int} (hk : 1 ≤ k ∧ k ≤ 12) (hi : bp id) :
   CS.put ⟨out, F ++ [⟨false, last, 0, 0⟩], 0⟩ id k b = ⟨out ++ (b6 last id (byte k) ++ b), F ++ [⟨false, id, 0, 0⟩], 0⟩ := by
 unfold CS.put; rw [Bu hk hi, if_pos rfl, List.append_assoc]
theorem y3 {F : List Pl} {out : List UInt8} {last id k n : Int} (hk : k = 5 ∨ k = 6) (hi : bp id) (hf : bc n (c7 k) = 0) :
   CS.whole ⟨out, F ++ [⟨false, last, 0, 0⟩], 0⟩ id k n = ⟨out ++ (b6 last id (byte k) ++ aF (cA n)), F ++ [⟨false, id, 0, 0⟩], 0⟩ := by
 unfold CS.whole
 rcases hk with rfl | rfl
 . rw [if_neg (by simp), if_neg (by decide), if_neg (by rw [hf]; decide), mG (by decide) hi, if_neg (by decide)]
 . rw [if_neg (by simp), if_neg (by decide), if_neg (by rw [hf]; decide), mG (by decide) hi, if_neg (by decide)]
theorem zA {F : List Pl} {out : List UInt8} {last id : Int} (b : Bool) (hi : bp id) :
   CS.flag ⟨out, F ++ [⟨false, last, 0, 0⟩], 0⟩ id b = ⟨out ++ b6 last id (byte (if b = true then 1 else 2)), F ++ [⟨false, id, 0, 0⟩], 0⟩ := by
 have e : ∀ k : Int, k = 1 ∨ k = 2 → CS.hC ⟨out, F ++ [⟨false, last, 0, 0⟩], 0⟩ id k = ⟨out ++ b6 last id (byte k), F ++ [⟨false, id, 0, 0⟩], 0⟩ := fun k hk => by
  unfold CS.hC
  rw [Bu (by omega) hi, if_pos rfl]
  dsimp only
  rw [xW, if_neg (by simp)]
 cases b with
 | true => exact e 1 (.inl rfl)
 | false => exact e 2 (.inr rfl)
theorem B7 {F : List Pl} {v : ae} {tx out : List UInt8} (hn : -9223372036854775808 ≤ v.num ∧ v.num ≤ 9223372036854775807) :
   eF v tx ⟨out, F ++ [⟨false, 2, 0, 0⟩], 0⟩ = ⟨out ++ (b6 2 (gq v tx).1.id (byte (gq v tx).1.k) ++ (gq v tx).1.x), F ++ [⟨false, (gq v tx).1.id, 0, 0⟩], 0⟩ := by
 unfold eF du gq
 by_cases h4 : v.kind = 4
 . rw [if_pos h4, if_pos h4, BL, mG (by decide) (by unfold bp; decide)]
 rw [if_neg h4, if_neg h4]
 by_cases h2 : v.kind = 2 ∧ v.num = 0
 . rw [if_pos h2, if_pos h2, BM, zA false (by unfold bp; decide), List.append_nil]; rfl
 rw [if_neg h2, if_neg h2]
 by_cases h2 : v.kind = 2
 . rw [if_pos h2, if_pos h2, BN, zA true (by unfold bp; decide), List.append_nil]; rfl
 rw [if_neg h2, if_neg h2]
 by_cases h3 : v.kind = 3
 . rw [if_pos h3, if_pos h3, BO, y3 (.inr rfl) (by unfold bp; decide) (rR hn)]
 rw [if_neg h3, if_neg h3]
 by_cases h5 : v.kind = 5
 . rw [if_pos h5, if_pos h5, sv, mG (by decide) (by unfold bp; decide)]
 rw [if_neg h5, if_neg h5, sv, mG (by decide) (by unfold bp; decide)]
theorem D5 {A : Pl} {out key : List UInt8} {v : ae} {tx : List UInt8} {m : Int} (h : na key v tx) (hm : 1 ≤ m ∧ m ≤ 2147483647) :
   CS.ops ⟨out, [A, ⟨true, 0, m, 12⟩], 0⟩ (cL 0 key v tx) = ⟨out ++ mY key v tx, [A, ⟨true, 0, m - 1, 12⟩], 0⟩ := by
 have hs : CS.struct ⟨out, [A, ⟨true, 0, m, 12⟩], 0⟩ 0 = ⟨out, [A, ⟨true, 0, m - 1, 12⟩] ++ [⟨false, 0, 0, 0⟩], 0⟩ := by
  have e : CS.may ⟨out, [A, ⟨true, 0, m, 12⟩], 0⟩ 0 12 = (⟨out, [A, ⟨true, 0, m - 1, 12⟩], 0⟩, true) := by
   have ht : CS.top ⟨out, [A, ⟨true, 0, m, 12⟩], 0⟩ = ⟨true, 0, m, 12⟩ := rfl
   unfold CS.may
   rw [ht, if_neg (by simp), if_neg (by simp), if_pos rfl, if_neg (by dsimp only; omega), if_pos (show eS (byte 12) (byte 12) = true by decide)]
   have hw : IntKind.i64.wrap (m - 1) = m - 1 := by rw [bU]; omega
   dsimp only
   rw [hw]; rfl
  unfold CS.struct
  rw [if_neg (by simp), if_neg (by simp), if_neg (by simp), e, if_pos rfl]; rfl
 have hn := (ok_eq h.ok).2.1
 rw [lj, hs, mG (by decide) (by unfold bp; decide), y3 (.inl rfl) (by unfold bp; decide) (rQ (oH _)), B7 hn]
 have hf : ∀ (o : List UInt8) (i : Int), CS.fin ⟨o, [A, ⟨true, 0, m - 1, 12⟩] ++ [⟨false, i, 0, 0⟩], 0⟩ = ⟨o ++ [0], [A, ⟨true, 0, m - 1, 12⟩], 0⟩ := fun o i => by
  unfold CS.fin
  rw [xW, if_neg (by simp), if_neg (by simp), if_neg (by simp), if_neg (by simp)]; rfl
 rw [hf]
 unfold mY lK
 simp only [List.map_cons, List.map_nil, dd, List.append_assoc, List.append_nil, List.nil_append]
def aB (a : ak) : List UInt8 := mY a.key a.value (text a.value)
def ki (a : ak) : Prop := na a.key a.value (text a.value)
def aL (a : ak) : List aU := cL 0 a.key a.value (text a.value)
def dx (id : Int) (l : List ak) : List aU := if l.length = 0 then [] else ⟨91, id, l.length, 12, 0, []⟩ :: ((l.map aL).flatten ++ [⟨101, 0, 0, 0, 0, []⟩])
theorem oc (s : CS) (a b : List aU) : s.ops (a ++ b) = (s.ops a).ops b := by simp [CS.ops]
theorem xR {A : Pl} : ∀ (l : List ak) (out : List UInt8) (m : Int), (∀ a ∈ l, ki a) → (l.length : Int) ≤ m ∧ m ≤ 2147483647 →
   CS.ops ⟨out, [A, ⟨true, 0, m, 12⟩], 0⟩ (l.map aL).flatten = ⟨out ++ (l.map aB).flatten, [A, ⟨true, 0, m - l.length, 12⟩], 0⟩
 | [], out, m, _, _ => by simp [CS.ops]
 | a :: l, out, m, h, hm => by
   rw [List.length_cons] at hm
   rw [List.map_cons, List.flatten_cons, oc, show CS.ops _ (aL a) = _ from D5 (h a List.mem_cons_self) (by omega), xR l _ _ (fun b hb => h b (List.mem_cons_of_mem _ hb)) (by omega)]
   rw [List.map_cons, List.flatten_cons, List.append_assoc, List.length_cons, show m - 1 - (l.length : Int) = m - ((l.length + 1 : Nat) : Int) by omega]; rfl
def mH (l : List ak) : List UInt8 := c9 l.length (byte 12) ++ (l.map aB).flatten
def eH (l : List ak) : List UInt8 := if l.length = 0 then [0] else b6 0 5 (byte 9) ++ (mH l ++ [0])
def fe (l : List ak) : List aU := ⟨123, 0, 0, 0, 0, []⟩ :: (dx 5 l ++ [⟨101, 0, 0, 0, 0, []⟩])
theorem vF {l : List ak} (hl : 0 < l.length ∧ l.length ≤ 2147483647) : CS.list ⟨[], [⟨false, 0, 0, 0⟩], 0⟩ 5 l.length 12 = ⟨b6 0 5 (byte 9) ++ c9 l.length (byte 12), [⟨false, 5, 0, 0⟩, ⟨true, 0, l.length, 12⟩], 0⟩ := by
 have hp : ¬ (c9 (l.length : Int) (byte 12)).length = 0 := by
   unfold c9
   rw [if_neg (by have : ((byte 12).toNat : Int) = 12 := by decide
                  omega)]
   split <;> simp
 unfold CS.list
 rw [if_neg (by simp), if_neg (by simp), if_neg hp, vI (by decide) (by unfold bp; decide), if_pos rfl]; rfl
theorem yu {l : List ak} (h : ∀ a ∈ l, ki a) (hl : l.length ≤ 2147483647) : CS.new.ops (fe l) = ⟨eH l, [], 0⟩ := by
 have e0 : CS.new.ops (fe l) = CS.ops ⟨[], [⟨false, 0, 0, 0⟩], 0⟩ (dx 5 l ++ [⟨101, 0, 0, 0, 0, []⟩]) := rfl
 rw [e0, oc]
 unfold dx eH
 by_cases hz : l.length = 0
 . rw [if_pos hz, if_pos hz]; rfl
 rw [if_neg hz, if_neg hz]
 have e1 : ∀ r, CS.ops ⟨[], [⟨false, 0, 0, 0⟩], 0⟩ (⟨91, 5, l.length, 12, 0, []⟩ :: r) = CS.ops (CS.list ⟨[], [⟨false, 0, 0, 0⟩], 0⟩ 5 l.length 12) r := fun r => rfl
 rw [e1, vF (by omega), oc, xR l _ _ h (by omega), Int.sub_self]
 unfold mH
 rw [List.append_assoc, List.append_assoc]
 refine (uU (out := b6 0 5 (byte 9) ++ (c9 (l.length : Int) (byte 12) ++ (l.map aB).flatten)) (id := 5)).trans ?_
 rw [List.append_assoc, List.append_assoc]
def lL (a : ak) : Tg := u6 a.key a.value (text a.value)
theorem C6 : ∀ (l : List ak) (acc : List Tg), (∀ a ∈ l, ki a) → fT 1 (l.map aB) acc = (acc ++ l.map lL, 0)
 | [], acc, _ => by simp [fT]
 | a :: l, acc, h => by
   have e : dH (1 + 1) (aB a) = (lL a, 0) := Lg (h a List.mem_cons_self)
   rw [List.map_cons, fT, e, if_neg (fun q => q rfl), C6 l _ (fun b hb => h b (List.mem_cons_of_mem _ hb)), List.map_cons, List.append_assoc]; rfl
theorem E5 {l : List ak} (h : ∀ a ∈ l, ki a) (hl : l.length ≤ 2147483647) : (bK 0 (eH l)).1 = 0 ∧ (∀ f ∈ (bK 0 (eH l)).2.2, f.raw.length ≤ (eH l).length) ∧ gM (bK 0 (eH l)).2.2 5 1 = (l.map lL, 0) := by
 unfold eH
 by_cases hz : l.length = 0
 . rw [if_pos hz]
   have : l = [] := List.eq_nil_of_length_eq_zero hz
   subst this
   have e : bK 0 [0] = (0, 1, []) := by kernel_rfl
   rw [e]
   exact ⟨rfl, fun f hf => absurd hf List.not_mem_nil, rfl⟩
 rw [if_neg hz]
 have hv : ∀ x ∈ l.map aB, VT 30 12 x := fun x hx => by
  obtain ⟨a, ha, rfl⟩ := List.mem_map.1 hx
  exact MK (h a ha) 29
 have hr : VT 31 9 (mH l) := by
  have := VT.lst 30 12 (l.map aB) (by unfold kR; decide) (by rw [List.length_map]; exact hl) (fun _ => hv) (fun q => by unfold lM at q; omega)
  rw [List.length_map] at this
  exact this
 have e := Ch (d := 0) (l := [((⟨5, 9, mH l⟩ : Fw), (⟨5, 9, 0, 0, [], mH l⟩ : Fd))]) (by decide) (fun f hf => by
  simp only [List.mem_cons, List.not_mem_nil, or_false] at hf
  subst hf
  exact ⟨⟨by unfold bp; dsimp only; decide, by unfold kR; dsimp only; decide⟩, RV.raw (.inl rfl) hr⟩)
 simp only [List.map_cons, List.map_nil, dd, List.append_nil, List.append_assoc] at e
 rw [e]
 refine ⟨rfl, fun f hf => ?_, ?_⟩
 . simp only [List.mem_cons, List.not_mem_nil, or_false] at hf
   subst hf
   simp only [List.length_append]; omega
 . have es := MB (d := 1) (xs := l.map aB) (by decide) (by rw [List.length_map]; exact hl) hv
   rw [List.length_map] at es
   have es : strs [(⟨5, 9, 0, 0, [], mH l⟩ : Fd)] 5 1 = _ := es
   unfold gM
   dsimp only
   rw [es, if_neg (fun q => q rfl)]
   exact C6 l [] h
end Go.Proofs.YtipejldppicijaaGreatDoor
