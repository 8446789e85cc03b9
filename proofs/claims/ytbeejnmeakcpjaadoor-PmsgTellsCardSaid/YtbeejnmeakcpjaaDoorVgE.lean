/-
  What the symbolic run leans on: the types' table, operands, and small facts on lists of cells.
-/
import Derived.Test.YtbeejnmeakcpjaaDoorVgD
import Derived.WideKeyMaps
import Derived.WideKeyEntry
set_option linter.unusedSimpArgs false
set_option linter.unusedVariables false
namespace Go.VG
open Go

def FeqOK (P : Program) (t : TypeId) (sh : List Sc) : Prop := ∀ (st : St) (g : Ghost) (n : Nat) (cs ds : List V) (r : Bool) (a b : Array Value) (w : World),
  fitsL sh cs = true → fitsL sh ds = true → eqs cs ds = some r → cs.length = P.cellsOf t → VRs st g cs n a.toList → VRs st g ds n b.toList → (Op.equal t (.agg a) (.agg b)).run P w = .ok r w ∧ P.eqGuardType P.depth t = false

def aggOf (P : Program) (k : TypeId) : Bool := match P.underlying k with
  | some (.struct _) | some (.array _ _) => true
  | _ => false
def KeyOK (P : Program) (k : TypeId) (sh : List Sc) : Prop := WideMaps.KeyLaw P k ∧ ∀ x, fitsK (aggOf P k) sh x = true → okK x → ∃ l, keyOf P k (valK x) = some l
def TK.feqOK (P : Program) (t : TypeId) (sh : List Sc) : TK → Prop
  | .map k _ => KeyOK P k sh
  | _ => FeqOK P t sh
def TK.ok (P : Program) (t : TypeId) : TK → Prop
  | .bool => P.underlying t = some .bool
  | .int k => P.underlying t = some (.int k)
  | .string => P.underlying t = some .string
  | .slice e => P.underlying t = some (.slice e)
  | .array n e => P.underlying t = some (.array n e)
  | .ptr e => P.underlying t = some (.pointer e)
  | .struct fs => ∃ fields, P.underlying t = some (.struct fields) ∧ fields.toList.map (fun f => (f.offset, f.type)) = fs ∧ (fields.toList.mapM (fun f => (P.info? f.type).map fun i => (f.offset, i.size))).isSome = true
  | .iface => ∃ ms, P.underlying t = some (.interface ms)
  | .func => ∃ a b c, P.underlying t = some (.func a b c)
  | .map k e => P.underlying t = some (.map k e)
  | .other => False

def TIok (P : Program) (t : TypeId) (i : TI) : Prop := match i.k with
  | .other => True
  | k => k.ok P t ∧ (∃ info, P.info? t = some info ∧ info.size = i.size ∧ info.bytes = i.bytes ∧ ∃ z, info.zero = some z ∧ ∀ (st : St) (g : Ghost) (n : Nat), VR st g i.zero n z) ∧
      (i.feq ≠ [] → i.k.feqOK P t i.feq)

theorem TIok.of {P : Program} {t : TypeId} {i : TI} (h : TIok P t i) (hk : i.k ≠ .other) : i.k.ok P t ∧ (∃ info, P.info? t = some info ∧ info.size = i.size ∧ info.bytes = i.bytes ∧ ∃ z, info.zero = some z ∧ ∀ (st : St) (g : Ghost) (n : Nat), VR st g i.zero n z) ∧
      (i.feq ≠ [] → i.k.feqOK P t i.feq) := by
  unfold TIok at h
  split at h
  · contradiction
  · exact h

section
variable {P : Program} {t : TypeId} {i : TI} (w : World)

theorem run_ti (h : TIok P t i) (hk : i.k ≠ .other) : ∃ info, (typeInfo t).run P w = .ok info w ∧ info.size = i.size ∧ info.bytes = i.bytes ∧ ∃ z, info.zero = some z ∧ ∀ (st : St) (g : Ghost) (n : Nat), VR st g i.zero n z := by
  obtain ⟨_, ⟨info, h1, h2, h3, h4⟩, _⟩ := h.of hk
  exact ⟨info, by simp [typeInfo, h1], h2, h3, h4⟩
theorem run_size (h : TIok P t i) (hk : i.k ≠ .other) : (sizeOf t).run P w = .ok i.size w := by
  obtain ⟨_, ⟨info, h1, h2, _⟩, _⟩ := h.of hk
  simp [sizeOf, typeInfo, h1, h2]
theorem cellsOf_of (h : TIok P t i) (hk : i.k ≠ .other) : P.cellsOf t = i.size := by
  obtain ⟨_, ⟨info, h1, h2, _⟩, _⟩ := h.of hk
  simp [Program.cellsOf, h1, h2]
theorem run_zero (h : TIok P t i) (hk : i.k ≠ .other) : ∃ z, (zeroValue t).run P w = .ok z w ∧ ∀ (st : St) (g : Ghost) (n : Nat), VR st g i.zero n z := by
  obtain ⟨_, ⟨info, h1, h2, _, z, h4, h5⟩, _⟩ := h.of hk
  exact ⟨z, by simp [zeroValue, typeInfo, h1, h4], h5⟩
theorem run_agg? (h : TIok P t i) (hk : i.k ≠ .other) : (isAgg t).run P w = .ok i.k.isAgg w := by
  obtain ⟨h1, _, _⟩ := h.of hk
  cases hk' : i.k <;> rw [hk'] at h1 <;> simp only [TK.ok] at h1
  case struct fs => obtain ⟨f, h1, _⟩ := h1; simp [isAgg, run_underlying h1, TK.isAgg]
  case iface => obtain ⟨f, h1⟩ := h1; simp [isAgg, run_underlying h1, TK.isAgg]
  case func => obtain ⟨a, b, c, h1⟩ := h1; simp [isAgg, run_underlying h1, TK.isAgg]
  all_goals simp [isAgg, run_underlying h1, TK.isAgg]
end

/-! lists of cells -/
theorem getL_eq : ∀ (xs : List V) (n : Nat), getL xs n = xs[n]?
  | [], n => by cases n <;> simp [getL]
  | x :: xs, 0 => by simp [getL]
  | x :: xs, n + 1 => by simp [getL, getL_eq xs n]
theorem dropL_eq : ∀ (xs : List V) (n : Nat), dropL xs n = xs.drop n
  | xs, 0 => by simp [dropL]
  | [], n + 1 => by simp [dropL]
  | x :: xs, n + 1 => by simp [dropL, dropL_eq xs n]
theorem takeL_eq : ∀ {xs : List V} {n : Nat} {r : List V}, takeL xs n = some r → r = xs.take n ∧ n ≤ xs.length
  | xs, 0, r, h => by simp [takeL] at h; simp [h]
  | [], n + 1, r, h => by simp [takeL] at h
  | x :: xs, n + 1, r, h => by
    simp only [takeL] at h
    split at h
    · rename_i r' hr
      obtain ⟨h1, h2⟩ := takeL_eq hr
      cases h
      subst h1
      exact ⟨by simp, by simpa using h2⟩
    · cases h
/-- some cells laid over others -/
def over {α : Type} (xs : List α) (o : Nat) (ys : List α) : List α := xs.take o ++ ys ++ xs.drop (o + ys.length)
theorem setL_eq : ∀ {xs : List V} {o : Nat} {ys r : List V}, setL xs o ys = some r → r = over xs o ys ∧ (ys = [] ∨ o + ys.length ≤ xs.length)
  | xs, o, [], r, h => by simp [setL] at h; simp [over, h]
  | [], _, _ :: _, r, h => by simp [setL] at h
  | x :: xs, 0, y :: ys, r, h => by
    simp only [setL] at h
    split at h
    · rename_i r' hr
      obtain ⟨h1, h2⟩ := setL_eq hr
      cases h
      subst h1
      refine ⟨by simp [over], .inr ?_⟩
      rcases h2 with rfl | h2
      · simp
      · simpa using h2
    · cases h
  | x :: xs, n + 1, y :: ys, r, h => by
    simp only [setL] at h
    split at h
    · rename_i r' hr
      obtain ⟨h1, h2⟩ := setL_eq hr
      cases h
      subst h1
      refine ⟨?_, .inr ?_⟩
      · simp only [over, List.take_succ_cons, List.cons_append]
        rw [show n + 1 + (y :: ys).length = (n + (y :: ys).length) + 1 by omega, List.drop_succ_cons]
      · rcases h2 with h2 | h2
        · cases h2
        · simp at h2 ⊢; omega
    · cases h

theorem over_length {α : Type} {xs : List α} {o : Nat} {ys : List α} (h : ys = [] ∨ o + ys.length ≤ xs.length) : (over xs o ys).length = xs.length := by
  rcases h with rfl | h
  · simp [over]
  · simp [over]; omega

theorem VRs_over {st : St} {g : Ghost} {n o : Nat} {cs ds : List V} {vs us : List Value} (h : VRs st g cs n vs) (k : VRs st g ds n us) : VRs st g (over cs o ds) n (over vs o us) := by
  unfold over
  rw [← VRs_length k]
  exact VRs_append (VRs_append (VRs_take h) k) (VRs_drop h)

theorem getSg_eq : ∀ {sg : List O} {i : Nat} {o : O}, getSg sg i = o → o ≠ .dead → sg[i]? = some o ∧ i < sg.length
  | [], i, o, h, hn => by simp [getSg] at h; exact absurd h.symm hn
  | p :: ps, 0, o, h, hn => by simp [getSg] at h; simp [h]
  | p :: ps, i + 1, o, h, hn => by
    simp only [getSg] at h
    obtain ⟨h1, h2⟩ := getSg_eq h hn
    exact ⟨by simpa using h1, by simpa using h2⟩
theorem killSg_eq (ks : List Nat) : ∀ sg : List O, killSg ks sg = sg.map (O.kill ks)
  | [] => rfl
  | o :: os => by simp [killSg, killSg_eq ks os]
theorem setSg_eq : ∀ (sg : List O) (i : Nat) (o : O), setSg sg i o = sg.set i o
  | [], i, o => by simp [setSg]
  | p :: ps, 0, o => by simp [setSg]
  | p :: ps, i + 1, o => by simp [setSg, setSg_eq ps i o]
mutual
theorem kill_nil : ∀ (x : V), x.kill [] = x
  | .undef | .int .. | .bool _ | .str _ | .list .. | .nilptr | .box .. | .nilIface | .nilFunc | .nilmap | .ptr .. | .bptr .. | .buf _ | .map _ => by simp [V.kill, memN]
  | .agg cs | .tuple cs => by simp [V.kill, killL_nil cs]
  | .iface t x => by simp [V.kill, kill_nil x]
  | .func f a b => by simp [V.kill, killL_nil a, killL_nil b]
theorem killL_nil : ∀ (x : List V), V.killL [] x = x
  | [] => by simp [V.killL]
  | c :: cs => by simp [V.killL, kill_nil c, killL_nil cs]
end
theorem killO_nil (o : O) : o.kill [] = o := by cases o <;> simp [O.kill, killL_nil, kill_nil]
theorem killIfSg_eq (ks : List Nat) (sg : List O) : killIfSg ks sg = sg.map (O.kill ks) := by
  cases ks with
  | nil => simp only [killIfSg]; rw [show (O.kill []) = id from funext killO_nil]; simp
  | cons k ks => simp [killIfSg, killSg_eq]
theorem addSg_eq (a b : List O) : addSg a b = a ++ b := by cases b <;> simp [addSg]

theorem lk_kill (ks : List Nat) : ∀ (tm : List (Nat × V)) (t : Nat), lk (killTm ks tm) t = (lk tm t).kill ks
  | [], t => by simp [killTm, lk, V.kill]
  | (k, x) :: r, t => by
    simp only [killTm, lk]
    cases Nat.beq k t <;> simp [lk_kill ks r t]
theorem lk_killIf (ks : List Nat) (tm : List (Nat × V)) (t : Nat) : lk (killIfTm ks tm) t = (lk tm t).kill ks := by
  cases ks with
  | nil => simp [killIfTm, kill_nil]
  | cons k ks => simp [killIfTm, lk_kill]

/-! values and cells -/
theorem VR_cells {st : St} {g : Ghost} {x : V} {n : Nat} {v : Value} (h : VR st g x n v) (hu : x.isU = false) : VRs st g x.cells n v.cells.toList := by
  cases x <;> first
    | (simp [V.isU] at hu; done)
    | (simp only [VR] at h
       first
         | (obtain ⟨vs, rfl, h⟩ := h; exact h)
         | (rename_i cs; obtain ⟨vs, rfl, h⟩ := h; simp only [V.cells, Value.cells]; refine VRs_cons ?_ VRs_nil; simp only [VR]; exact ⟨vs, rfl, h⟩))
    | skip
  all_goals (
    have h' := h
    simp only [VR] at h
    first
      | (subst h; simp only [V.cells, Value.cells]; exact VRs_cons h' VRs_nil)
      | (obtain ⟨rfl, _⟩ := h; simp only [V.cells, Value.cells]; exact VRs_cons h' VRs_nil)
      | (obtain ⟨_, _, rfl, _⟩ := h; simp only [V.cells, Value.cells]; exact VRs_cons h' VRs_nil)
      | (obtain ⟨_, _, _, rfl, _⟩ := h; simp only [V.cells, Value.cells]; exact VRs_cons h' VRs_nil)
      | (obtain ⟨_, _, _, rfl⟩ := h; simp only [V.cells, Value.cells]; exact VRs_cons h' VRs_nil)
      | skip)

end Go.VG
