/-
  A part of the proof.
-/
import Derived.Test.YtipejldppicijaaGreatDoorGN
import Derived.Test.YtipejldppicijaaGreatDoorCRh
import Derived.Test.YtipejldppicijaaGreatDoorGL
import Derived.Test.YtipejldppicijaaGreatDoorPRef
import Derived.Test.YtipejldppicijaaGreatDoorPCheck
set_option linter.unusedSimpArgs false
set_option linter.unusedVariables false
set_option maxHeartbeats 4000000
namespace Go.Proofs.YtipejldppicijaaGreatDoor
open Go Go.VG
set_option maxRecDepth 100000
theorem IK {out : List UInt8} {last id n : Int} (hi : fB id) (hn : 0 ≤ n ∧ n ≤ 4) :
   CS.whole ⟨out, [⟨false, last, 0, 0⟩], 0⟩ id 5 n = ⟨out ++ bQ last id (byte 5) ++ aY (fj n), [⟨false, id, 0, 0⟩], 0⟩ := by
 have hf : bJ n 32 = 0 := by
  unfold bJ nZ
  rw [if_pos (decide_eq_true ?_)]
  rw [show dN (32 - 1) = 2147483648 from rfl]; omega
 unfold CS.whole
 rw [if_neg (by simp), if_neg (by decide), show gL 5 = 32 from rfl, if_neg (by rw [hf]; decide), na (by decide) hi, if_neg (by decide)]
theorem wZ {out : List UInt8} {last id : Int} (b : Bool) (hi : fB id) :
   CS.flag ⟨out, [⟨false, last, 0, 0⟩], 0⟩ id b = ⟨out ++ bQ last id (byte (if b = true then 1 else 2)), [⟨false, id, 0, 0⟩], 0⟩ := by
 have e : ∀ k : Int, k = 1 ∨ k = 2 → CS.mB ⟨out, [⟨false, last, 0, 0⟩], 0⟩ id k = ⟨out ++ bQ last id (byte k), [⟨false, id, 0, 0⟩], 0⟩ := fun k hk => by
  unfold CS.mB
  rw [yy (by omega) hi, if_pos rfl, if_neg (by simp [CS.top])]
 cases b with
 | true => exact e 1 (.inl rfl)
 | false => exact e 2 (.inr rfl)
theorem GJ (s : CS) (id b : Int) : s.op ⟨100, id, 0, 0, b, []⟩ = s.put id 7 (low 8 b.toNat) := rfl
theorem GK (s : CS) (id : Int) : s.op ⟨102, id, 0, 0, 0, []⟩ = s.flag id false := rfl
theorem GL (s : CS) (id : Int) : s.op ⟨102, id, 1, 0, 0, []⟩ = s.flag id true := rfl
theorem GM (s : CS) (id n k : Int) : s.op ⟨110, id, n, k, 0, []⟩ = s.whole id k n := rfl
theorem yN (s : CS) (id : Int) (t : List UInt8) : s.op ⟨115, id, 0, 0, 0, t⟩ = s.put id 8 (aY t.length ++ t) := rfl
theorem Ix {v : af} (h : v.kind = 5) : v.text.length ≤ (text v).length := by
 unfold text simple
 rw [if_neg (by omega), if_neg (by omega), if_neg (by omega), if_neg (by omega), if_neg (by omega), if_pos h, fX]; omega
theorem FW (v : af) (tx o : List UInt8) (hv : v.ok) (ht : v.text.length ≤ 90000000) (hx : tx.length ≤ 90000000) : ∃ x i, dV v tx ⟨o, [⟨false, 2, 0, 0⟩], 0⟩ = ⟨o ++ x, [⟨false, i, 0, 0⟩], 0⟩ ∧ (x.length ≤ 12 ∨ (v.kind = 5 ∧ x.length ≤ 11 + v.text.length) ∨ x.length ≤ 11 + tx.length) := by
 have hn := (ok_eq hv).2.1
 unfold dV ew
 by_cases h4 : v.kind = 4
 . rw [if_pos h4]
   refine ⟨bQ 2 4 (byte 7) ++ low 8 v.bits.toNat, 4, ?_, .inl ?_⟩
   . rw [GJ, na (by decide) (by unfold fB; decide), List.append_assoc]
   . rw [List.length_append, gU]; exact (by decide : (bQ 2 4 (byte 7)).length + 8 ≤ 12)
 rw [if_neg h4]
 by_cases h2 : v.kind = 2 ∧ v.num = 0
 . rw [if_pos h2]
   exact ⟨bQ 2 5 (byte 2), 5, by rw [GK]; exact wZ false (by unfold fB; decide), .inl (by decide)⟩
 rw [if_neg h2]
 by_cases h2 : v.kind = 2
 . rw [if_pos h2]
   exact ⟨bQ 2 5 (byte 1), 5, by rw [GL]; exact wZ true (by unfold fB; decide), .inl (by decide)⟩
 rw [if_neg h2]
 by_cases h3 : v.kind = 3
 . rw [if_pos h3]
   refine ⟨bQ 2 6 (byte 6) ++ aY (fj v.num), 6, ?_, .inl ?_⟩
   . rw [GM, IL (by unfold fB; decide) hn, List.append_assoc]
   . have := (fh (nA hn)).2
     rw [List.length_append, show (bQ 2 6 (byte 6)).length = 1 by decide]; omega
 rw [if_neg h3]
 by_cases h5 : v.kind = 5
 . rw [if_pos h5]
   refine ⟨bQ 2 7 (byte 8) ++ (aY v.text.length ++ v.text), 7, ?_, .inr (.inl ⟨h5, ?_⟩)⟩
   . rw [yN, na (by decide) (by unfold fB; decide), List.append_assoc]
   . have := (fh (u := v.text.length) (by omega)).2
     rw [List.length_append, List.length_append, show (bQ 2 7 (byte 8)).length = 1 by decide]; omega
 rw [if_neg h5]
 refine ⟨bQ 2 3 (byte 8) ++ (aY tx.length ++ tx), 3, ?_, .inr (.inr ?_)⟩
 . rw [yN, na (by decide) (by unfold fB; decide), List.append_assoc]
 . have := (fh (u := tx.length) (by omega)).2
   rw [List.length_append, List.length_append, show (bQ 2 3 (byte 8)).length = 1 by decide]; omega
theorem He (key : List UInt8) (v : af) (hv : v.ok) (hk : key.length ≤ 30000000) (ht : v.text.length ≤ 30000000) (hx : (text v).length ≤ 40000000) :
   ((CS.new.ops (dQ 0 key v (text v))).done).2 = 0 ∧ ((CS.new.ops (dQ 0 key v (text v))).done).1.length ≤ 64 + 6 * key.length + 12 * (text v).length := by
 have e1 : CS.new.struct 0 = ⟨[], [⟨false, 0, 0, 0⟩], 0⟩ := rfl
 have hq := Ab v.kind
 have hz := (fh (nA (n := dA v.kind) (by omega))).2
 have hkv := (fh (u := key.length) (by omega)).2
 rw [kb, e1, na (by decide) (by unfold fB; decide), IK (by unfold fB; decide) hq]
 obtain ⟨x, i, e, hl⟩ := FW v (text v) ([] ++ bQ 0 1 (byte 8) ++ (aY key.length ++ key) ++ bQ 1 2 (byte 5) ++ aY (fj (dA v.kind))) hv (by omega) (by omega)
 have e : dV v (text v) ⟨[] ++ bQ 0 1 (byte 8) ++ (aY key.length ++ key) ++ bQ 1 2 (byte 5) ++ aY (fj (dA v.kind)), [⟨false, 2, 0, 0⟩], 0⟩ = _ := e
 rw [e, Eh, B5]
 refine ⟨rfl, ?_⟩
 have hx2 : x.length ≤ 12 + (text v).length := by
  rcases hl with hl | ⟨h5, hl⟩ | hl
  . omega
  . have := Ix h5; omega
  . omega
 simp only [List.length_append, List.length_nil, List.length_singleton, show (bQ 0 1 (byte 8)).length = 1 by decide, show (bQ 1 2 (byte 5)).length = 1 by decide]
 omega
end Go.Proofs.YtipejldppicijaaGreatDoor
namespace Go.Proofs.YtipejldppicijaaGreatDoor
open Go Go.VG
set_option maxRecDepth 100000
def ny (a : aw) : Int := 64 + 6 * a.key.length + 12 * (text a.value).length
theorem Dk (a : aw) (hv : a.value.ok) (hs : a.value.size ≤ 300000) (hk : a.key.length ≤ 30000000) : OK 28 [.list true 7 [ea a]] [] (.int .i64 (ny a)) none := by
 refine ai (C := cx [(56, ug)]) (aj ⟨EP, trivial⟩) (fn := Tryz.f28) rfl rfl rfl rfl fun hw _ => ?_
 have ht := (vk hv hs).1
 all_goals try conv => whnf
 all_goals try (refine a8.mk ?_; try dsimp only)
 refine br.mk Nat (fun i => i ≤ 1) (fun i => ⟨31, [(0, .list true 7 [ea a]), (3, .int .i64 (if i = 0 then 0 else ny a)), (4, .int .i64 i)], [], []⟩) (fun i => 1 - i) [] 0 (by decide) ?_ (fun i hi _ _ => ?_)
 . refine Go.VG.Sub.mk rfl ?_ ?_ ?_ ?_ <;> (repeat' first | trivial)
 rcases (by omega : i = 0 ∨ i = 1) with rfl | rfl
 . rw [if_pos rfl]
   repeat' ((conv => whnf); first | apply a9 | with_reducible refine dj.mk _ rfl ?_)
   all_goals try conv => whnf
   all_goals try (refine a8.mk ?_; try dsimp only)
   all_goals (try simp only [aD] at *)
   . decide
   . decide
   . exact ⟨bk a.value, hv, hs⟩
   . refine ⟨[], 1, by decide, ?_, by decide⟩
     have e1 : IntKind.i64.wrap (6 * (a.key.length : Int)) = 6 * a.key.length := by rw [bS]; omega
     have e2 : IntKind.i64.wrap (12 * ((text a.value).length : Int)) = 12 * (text a.value).length := by rw [bS]; omega
     have e3 : IntKind.i64.wrap (64 + 6 * (a.key.length : Int)) = 64 + 6 * a.key.length := by rw [bS]; omega
     have e4 : IntKind.i64.wrap (0 + 64) = 64 := by decide
     have e5 : IntKind.i64.wrap (64 + 6 * (a.key.length : Int) + 12 * (text a.value).length) = ny a := by unfold ny; rw [bS]; omega
     rw [e1, e2, e4, e3, e5]
     refine Go.VG.Sub.mk rfl ?_ ?_ ?_ ?_ <;> (repeat' first | trivial)
 . rw [if_neg (by decide)]
   all_goals try conv => whnf
   all_goals try (refine a8.mk ?_; try dsimp only)
   refine a7.mk [] ?_ <;> (repeat' first | trivial)
def uN : Sm := fun args σ => match args, σ with
 | [.list true 7 [y]], [] => some (y = ea (cK y) ∧ (cK y).value.ok ∧ (cK y).value.size ≤ 300000 ∧ (cK y).key.length ≤ 30000000, .int .i64 (ny (cK y)), none)
 | _, _ => none
theorem Ff : aa 28 uN := by
 intro args sg pre x r he hp
 unfold uN at he
 split at he <;> cases he
 rename_i y
 rw [hp.1, sr]
 exact Dk _ hp.2.1 hp.2.2.1 hp.2.2.2
theorem Df (a : aw) (hok : a.value.ok) : OK 5 [ea a] [] (.bool true) none := by
 refine ai (C := cx [(17, u7), (18, u9), (6, uI), (25, pw), (26, uG), (27, pt), (28, uN)])
  (aj ⟨G0, EJ, Fa, sZ, F8, sY, Ff, trivial⟩) (fn := Tryz.f5) rfl rfl rfl rfl fun hw _ => ?_
 have hdm : fv (.list true 7 [ea a]) = [a] := by
  show iM [ea a] = [a]
  simp only [iM, sr]
 have hm : jS (.list true 7 [ea a]) := by
  unfold jS
  rw [hdm]
  simp only [bW, qi]
  exact Wk.clip
 have hs := tk [a] 4000
 have hsz : cF [a] = a.key.length + a.value.size := by simp [cF, u5]
 have hL : 0 ≤ cy [a] 4000 → a.key.length + a.value.size ≤ 4000 := fun h => by have := hs h; omega
 have b0 : Wb .new 0 0 := ⟨Nat.le_refl _, Nat.le_refl _⟩
 have hz := size_eq a.value
 have hF : 0 ≤ cy [a] 4000 → a.key.length + a.value.size ≤ 4000 ∧ Wb (CS.new.ops (dQ 0 a.key a.value (text a.value))) 1800000000 800 ∧ (((CS.new.ops (dQ 0 a.key a.value (text a.value))).done).2 = 0 ∧ ((CS.new.ops (dQ 0 a.key a.value (text a.value))).done).1.length ≤ 64 + 6 * a.key.length + 12 * (text a.value).length) := fun h => by
  have hl := hL h
  have ht := vk hok (by omega)
  have h : WT .new 0 a.key a.value (text a.value) := ⟨b0.le (by decide) (by decide), by omega, ht.2, ht.1, (ok_eq hok).2.1⟩
  have b4 := h.b.2.2.2
  have b5 : Wb (dV a.value (text a.value) _).fin _ _ := b4.op ⟨101, 0, 0, 0, 0, []⟩ (Nat.zero_le _) (by decide)
  rw [kb]
  exact ⟨hl, b5.le (by decide) (by decide), by rw [← kb]; exact He a.key a.value hok (by omega) ht.2 ht.1⟩
 clear hs
 repeat' ((conv => whnf); first | apply a9 | apply aQ | (apply ao <;> intro h))
 all_goals try conv => whnf
 all_goals try (refine a8.mk ?_; try dsimp only)
 all_goals (try simp only [bu, sr, hdm] at *)
 . exact ⟨hm, by omega⟩
 . refine a7.mk [] ?_ <;> (repeat' first | trivial)
 . exact ⟨hm, by have := hL (by omega); omega, by omega⟩
 . exact ⟨aP (by decide) (by decide), ⟨Wk.refl _, hok, by have := hL (by omega); omega⟩, b0.le (by decide) (by decide)⟩
 . have := (hF (by omega)).2.1
   exact ⟨aP (by have := this.1; omega) (by have := this.2; omega), trivial⟩
 . exact ⟨trivial, hok, by have := hL (by omega); omega⟩
 all_goals (obtain ⟨-, -, hz0, hl0⟩ := hF (by omega))
 . refine a7.mk [] ?_ <;> (repeat' first | trivial)
 . exfalso
   unfold ny at *
   omega
 . exact absurd hz0 (by assumption)
 . refine a7.mk [] ?_ <;> (repeat' first | trivial)
end Go.Proofs.YtipejldppicijaaGreatDoor
