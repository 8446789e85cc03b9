/-
  Each symbolic operation tells what the operation does: arithmetic, texts, indexes, cuts, conversions, assertions.
-/
import Derived.Test.YtbeejnmeakcpjaaDoorVgG
import Derived.IntWalk
import Derived.OpenShut
set_option linter.unusedSimpArgs false
set_option linter.unusedVariables false
namespace Go.VG
open Go

theorem wrap_in (k : IntKind) (n : Int) : k.min ≤ k.wrap n ∧ k.wrap n ≤ k.max := by
  have h : (Lit.int k (k.wrap n)).wf = true := wf_wrap k n
  simpa [Lit.wf] using h

theorem tmod_in {k : IntKind} {a : Int} (b : Int) (h : k.min ≤ a ∧ a ≤ k.max) : k.min ≤ a.tmod b ∧ a.tmod b ≤ k.max := by
  have hz : k.min ≤ 0 ∧ 0 ≤ k.max := by cases k <;> simp [IntKind.min, IntKind.max, IntKind.signed, IntKind.bits]
  have : (0 ≤ a → 0 ≤ a.tmod b ∧ a.tmod b ≤ a) ∧ (a ≤ 0 → a ≤ a.tmod b ∧ a.tmod b ≤ 0) := by
    cases a with
    | ofNat m =>
      have hm : ∀ n : Nat, ((m % n : Nat) : Int) ≤ m := fun n => by exact_mod_cast Nat.mod_le m n
      cases b with
      | ofNat n =>
        have e : (Int.ofNat m).tmod (Int.ofNat n) = ((m % n : Nat) : Int) := rfl
        rw [e]
        refine ⟨fun _ => ⟨by omega, hm n⟩, fun h => ?_⟩
        have h0 : m = 0 := by have : (m : Int) ≤ 0 := h; omega
        subst h0; simp
      | negSucc n =>
        have e : (Int.ofNat m).tmod (Int.negSucc n) = ((m % (n + 1) : Nat) : Int) := rfl
        rw [e]
        refine ⟨fun _ => ⟨by omega, hm (n + 1)⟩, fun h => ?_⟩
        have h0 : m = 0 := by have : (m : Int) ≤ 0 := h; omega
        subst h0; simp
    | negSucc m =>
      have hm : ∀ n : Nat, (((m + 1) % n : Nat) : Int) ≤ m + 1 := fun n => by exact_mod_cast Nat.mod_le (m + 1) n
      have hneg : Int.negSucc m = -((m : Int) + 1) := by omega
      cases b with
      | ofNat n =>
        have e : (Int.negSucc m).tmod (Int.ofNat n) = -(((m + 1) % n : Nat) : Int) := rfl
        rw [e]
        have := hm n
        exact ⟨fun h => by omega, fun _ => ⟨by omega, by omega⟩⟩
      | negSucc n =>
        have e : (Int.negSucc m).tmod (Int.negSucc n) = -(((m + 1) % (n + 1) : Nat) : Int) := rfl
        rw [e]
        have := hm (n + 1)
        exact ⟨fun h => by omega, fun _ => ⟨by omega, by omega⟩⟩
  rcases Int.le_total 0 a with h0 | h0
  · have := this.1 h0; omega
  · have := this.2 h0; omega

theorem shr_in {k : IntKind} {a : Int} (n : Nat) (h : k.min ≤ a ∧ a ≤ k.max) : k.min ≤ a.fdiv (2 ^ n) ∧ a.fdiv (2 ^ n) ≤ k.max := by
  have hz : k.min ≤ 0 ∧ 0 ≤ k.max := by cases k <;> simp [IntKind.min, IntKind.max, IntKind.signed, IntKind.bits]
  have hp : (1 : Int) ≤ 2 ^ n := by
    have : 1 ≤ 2 ^ n := Nat.one_le_two_pow
    exact_mod_cast this
  rw [Int.fdiv_eq_ediv_of_nonneg _ (by omega)]
  generalize (2 : Int) ^ n = p at hp
  rcases Int.le_total 0 a with h0 | h0
  · have h1 : a / p ≤ a := Int.ediv_le_self p h0
    have h2 : 0 ≤ a / p := Int.ediv_nonneg h0 (by omega)
    omega
  · have h1 : a ≤ a / p := by
      rw [Int.le_ediv_iff_mul_le (by omega)]
      have := Int.mul_le_mul_of_nonpos_left h0 hp
      omega
    have h2 : a / p ≤ 0 := by
      have := Int.ediv_le_ediv (c := p) (by omega) h0
      simpa using this
    omega

theorem keq_iff {k k' : IntKind} : keq k k' = true ↔ k = k' := by cases k <;> cases k' <;> simp [keq]

section
variable {C : Ctx} {E : Env} {st : St} {g : Ghost} {s : AS} {a : Act} {w : World} {o : Oper} {e : Ef}

theorem VR_int {k : IntKind} {n : Int} {m : Nat} (h : k.min ≤ n ∧ n ≤ k.max) : VR st g (.int k n) m (.int k n) := by simp only [VR]; exact ⟨trivial, h⟩
theorem VR_i64 {n m : Nat} (h : n ≤ maxLen) : VR st g (.int .i64 n) m (.int .i64 n) := VR_int (by simp only [maxLen] at h; simp [IntKind.min, IntKind.max, IntKind.signed, IntKind.bits]; omega)
theorem VR_bool {b : Bool} {m : Nat} : VR st g (.bool b) m (.bool b) := by simp [VR]

theorem strEq (a b : List UInt8) : ((⟨a.toArray⟩ : ByteArray).toList == (⟨b.toArray⟩ : ByteArray).toList) = (a == b) := by rw [ByteArray.toList_mk, ByteArray.toList_mk]

theorem equal_ptr_nil {P : Program} {w : World} {t e : TypeId} (h : P.underlying t = some (.pointer e)) (v : Option Addr) : (Op.equal t (.pointer none) (.pointer v)).run P w = .ok v.isNone w := by
  have : ∀ d : Nat, (Op.equalIn (d + 1) t (.pointer none) (.pointer v)).run P w = .ok v.isNone w := fun d => by simp [Op.equalIn, run_underlying h]
  exact this 9999
theorem equal_ptr_some {P : Program} {w : World} {t e : TypeId} (h : P.underlying t = some (.pointer e)) (v : Addr) : (Op.equal t (.pointer (some v)) (.pointer none)).run P w = .ok false w := by
  have : ∀ d : Nat, (Op.equalIn (d + 1) t (.pointer (some v)) (.pointer none)).run P w = .ok false w := fun d => by simp [Op.equalIn, run_underlying h]
  exact this 9999
theorem equal_iface_nil {P : Program} {w : World} {t : TypeId} {ms : Array (String × TypeId)} (h : P.underlying t = some (.interface ms)) (u : TypeId) (z : Value) : (Op.equal t (.iface u z) .nilIface).run P w = .ok false w := by
  have : ∀ d : Nat, (Op.equalIn (d + 1) t (.iface u z) .nilIface).run P w = .ok false w := fun d => by simp [Op.equalIn, run_underlying h]
  exact this 9999
theorem equal_nil_iface {P : Program} {w : World} {t : TypeId} {ms : Array (String × TypeId)} (h : P.underlying t = some (.interface ms)) (u : TypeId) (z : Value) : (Op.equal t .nilIface (.iface u z)).run P w = .ok false w := by
  have : ∀ d : Nat, (Op.equalIn (d + 1) t .nilIface (.iface u z)).run P w = .ok false w := fun d => by simp [Op.equalIn, run_underlying h]
  exact this 9999
theorem run_eqlP {P : Program} {w : World} {t : TypeId} {x y : Operand} {p q : Option Addr} {r : Bool} (h : (Op.equal t (.pointer p) (.pointer q)).run P w = .ok r w) :
    (eqGuard .eql t x y (.pointer p) (.pointer q) >>= fun _ => binOp .eql t (.pointer p) (.pointer q)).run P w = .ok (.bool r) w := by
  rw [eqGuard_at_pointer, pure_bind]
  show (Op.equal t (.pointer p) (.pointer q) >>= fun b => pure (Value.bool b)).run P w = _
  rw [Sem.run_bind, h]; rfl
theorem run_neqP {P : Program} {w : World} {t : TypeId} {x y : Operand} {p q : Option Addr} {r : Bool} (h : (Op.equal t (.pointer p) (.pointer q)).run P w = .ok r w) :
    (eqGuard .neq t x y (.pointer p) (.pointer q) >>= fun _ => binOp .neq t (.pointer p) (.pointer q)).run P w = .ok (.bool (!r)) w := by
  rw [eqGuard_at_pointer, pure_bind]
  show (Op.equal t (.pointer p) (.pointer q) >>= fun b => pure (Value.bool (!b))).run P w = _
  rw [Sem.run_bind, h]; rfl
theorem run_eqlI {P : Program} {w : World} {t u : TypeId} {x y : Operand} {z : Value} {r : Bool} (h : (Op.equal t (.iface u z) .nilIface).run P w = .ok r w) :
    (eqGuard .eql t x y (.iface u z) .nilIface >>= fun _ => binOp .eql t (.iface u z) .nilIface).run P w = .ok (.bool r) w := by
  show (Op.equal t (.iface u z) .nilIface >>= fun b => pure (Value.bool b)).run P w = _
  rw [Sem.run_bind, h]; rfl
theorem run_neqI {P : Program} {w : World} {t u : TypeId} {x y : Operand} {z : Value} {r : Bool} (h : (Op.equal t (.iface u z) .nilIface).run P w = .ok r w) :
    (eqGuard .neq t x y (.iface u z) .nilIface >>= fun _ => binOp .neq t (.iface u z) .nilIface).run P w = .ok (.bool (!r)) w := by
  show (Op.equal t (.iface u z) .nilIface >>= fun b => pure (Value.bool (!b))).run P w = _
  rw [Sem.run_bind, h]; rfl
theorem run_eqlI' {P : Program} {w : World} {t u : TypeId} {x y : Operand} {z : Value} {r : Bool} (h : (Op.equal t .nilIface (.iface u z)).run P w = .ok r w) :
    (eqGuard .eql t x y .nilIface (.iface u z) >>= fun _ => binOp .eql t .nilIface (.iface u z)).run P w = .ok (.bool r) w := by
  show (Op.equal t .nilIface (.iface u z) >>= fun b => pure (Value.bool b)).run P w = _
  rw [Sem.run_bind, h]; rfl
theorem run_neqI' {P : Program} {w : World} {t u : TypeId} {x y : Operand} {z : Value} {r : Bool} (h : (Op.equal t .nilIface (.iface u z)).run P w = .ok r w) :
    (eqGuard .neq t x y .nilIface (.iface u z) >>= fun _ => binOp .neq t .nilIface (.iface u z)).run P w = .ok (.bool (!r)) w := by
  show (Op.equal t .nilIface (.iface u z) >>= fun b => pure (Value.bool (!b))).run P w = _
  rw [Sem.run_bind, h]; rfl

theorem s_bin {op : BinOp} {t yt : TypeId} {x y : Operand} (R : Rel E st g s a w) (hg : GlobOK C.gl st) (G : Good C) (ho : o.op = .binOp op t x y yt) :
    Snd C E st g s a w o (bindT (evBin C op t (s.ev C x) (s.ev C y)) fun v => ret (pe v)) := by
  have hx := ev_ok R hg x
  have hy := ev_ok R hg y
  suffices h : All (fun v => ∃ u, (eqGuard op t x y (a.eval x) (a.eval y) >>= fun _ => binOp op t (a.eval x) (a.eval y)).run C.P w = .ok u w ∧ VR st g v s.sg.length u) (evBin C op t (s.ev C x) (s.ev C y)) by
    refine All.bind (evBin_fn _ _ _ _ _) fun v hv => All.ret ?_
    obtain ⟨u, h1, h2⟩ := h v (hv _ rfl)
    exact OpOK.pure R u w (by simp only [execOp, ho]; rw [Sem.run_bind, h1]; rfl) (SameW.refl w) h2
  generalize s.ev C x = X at hx
  generalize s.ev C y = Y at hy
  generalize a.eval x = vx at hx
  generalize a.eval y = vy at hy
  unfold evBin
  split
  · simp only [VR] at hx hy
    obtain ⟨rfl, hxi⟩ := hx
    obtain ⟨rfl, hyi⟩ := hy
    simp only [eqGuard_at_int, pure_bind]
    split
    · exact All.req fun h0 => All.ret ⟨_, by simp only [binOp, Op.shift]; rw [if_neg (by omega)]; rfl, VR_int (wrap_in _ _)⟩
    · exact All.req fun h0 => All.ret ⟨_, by simp only [binOp, Op.shift]; rw [if_neg (by omega)]; rfl, VR_int (shr_in _ hxi)⟩
    all_goals
      refine All.when fun hk => ?_
      have hk := keq_iff.1 hk
      subst hk
    · exact All.ret ⟨_, by simp [binOp, Op.intArith], VR_int (wrap_in _ _)⟩
    · exact All.ret ⟨_, by simp [binOp, Op.intArith], VR_int (wrap_in _ _)⟩
    · exact All.ret ⟨_, by simp [binOp, Op.intArith], VR_int (wrap_in _ _)⟩
    · exact All.req fun h0 => All.ret ⟨_, by simp [binOp, Op.intDiv, h0], VR_int (wrap_in _ _)⟩
    · exact All.req fun h0 => All.ret ⟨_, by simp [binOp, Op.intDiv, h0], VR_int (tmod_in _ hxi)⟩
    · exact All.ret ⟨_, by simp only [binOp, Op.intBits, ne_eq, not_true_eq_false, if_false]; rfl, VR_int (wrap_in _ _)⟩
    · exact All.ret ⟨_, by simp only [binOp, Op.intBits, ne_eq, not_true_eq_false, if_false]; rfl, VR_int (wrap_in _ _)⟩
    · exact All.ret ⟨_, by simp only [binOp, Op.intBits, ne_eq, not_true_eq_false, if_false]; rfl, VR_int (wrap_in _ _)⟩
    · exact All.ret ⟨_, by simp only [binOp, Op.intBits, ne_eq, not_true_eq_false, if_false]; rfl, VR_int (wrap_in _ _)⟩
    all_goals exact All.ret ⟨_, by simp only [binOp, Op.intCmp, ne_eq, not_true_eq_false, if_false]; rfl, VR_bool⟩
  · rename_i p q
    simp only [VR] at hx hy
    obtain ⟨rfl, hxi⟩ := hx
    obtain ⟨rfl, hyi⟩ := hy
    simp only [eqGuard_at_string, pure_bind]
    split
    · refine All.req fun h0 => All.ret ⟨.string ⟨(p ++ q).toArray⟩, ?_, by simp only [VR]; exact ⟨trivial, by simp only [List.length_append, maxLen]; omega⟩⟩
      have h1 : (⟨p.toArray⟩ : ByteArray).size = p.length := by show p.toArray.size = _; simp
      have h2 : (⟨q.toArray⟩ : ByteArray).size = q.length := by show q.toArray.size = _; simp
      have h3 : (⟨p.toArray⟩ : ByteArray) ++ ⟨q.toArray⟩ = ⟨(p ++ q).toArray⟩ := by
        apply ByteArray.ext
        simp
      simp only [binOp, Op.stringOp, h1, h2, h3]
      rw [if_neg (by simp; omega)]
      rfl
    all_goals first
      | exact All.fail
      | exact All.ret ⟨_, by simp only [binOp, Op.stringOp, ByteArray.toList_mk]; rfl, VR_bool⟩
  · rename_i p q
    simp only [VR] at hx hy
    subst hx; subst hy
    simp only [eqGuard_at_bool, pure_bind]
    split
    · rename_i hk
      have h3 := ((G.ti t).of (by rw [hk]; simp)).1
      rw [hk] at h3
      exact All.ret ⟨_, run_eql_bool w t p q h3, VR_bool⟩
    · rename_i hk
      have h3 := ((G.ti t).of (by rw [hk]; simp)).1
      rw [hk] at h3
      exact All.ret ⟨_, run_neq_bool w t p q h3, VR_bool⟩
    · exact All.fail
  · rename_i p q
    simp only [VR] at hx hy
    obtain ⟨vp, rfl, hx⟩ := hx
    obtain ⟨vq, rfl, hy⟩ := hy
    split
    · exact All.fail
    · exact All.fail
    rename_i hk hkm
    have hk : (C.ti t).k ≠ .other := fun h => hk h
    refine All.when fun hw => All.opt fun r hr => ?_
    simp only [Bool.and_eq_true] at hw
    obtain ⟨hf, hf2, hl⟩ := hw
    have hl := Nat.eq_of_beq_eq_true hl
    have hne : (C.ti t).feq ≠ [] := fun e => by rw [e] at hf; cases hf
    have fl : ∀ {xs : List V}, fitsT (C.ti t).feq xs = true → fitsL (C.ti t).feq xs = true := fun {xs} h => by
      cases e : (C.ti t).feq with
      | nil => exact absurd e hne
      | cons k ks => rw [e] at h; exact h
    have hfe : FeqOK C.P t (C.ti t).feq := by
      have h0 := ((G.ti t).of hk).2.2 hne
      cases hkk : (C.ti t).k with
      | map a b => exact absurd hkk (fun q => hkm _ _ q)
      | _ => rw [hkk] at h0; exact h0
    obtain ⟨h1, h2⟩ := hfe st g s.sg.length p q r vp vq w (fl hf) (fl hf2) hr (by rw [cellsOf_of (G.ti t) hk]; exact hl) hx hy
    split
    · exact All.ret ⟨_, by simp [eqGuard, binOp, h1, h2], VR_bool⟩
    · exact All.ret ⟨_, by simp [eqGuard, binOp, h1, h2], VR_bool⟩
    · exact All.fail
  · simp only [VR] at hx hy
    subst hx; subst hy
    split
    · rename_i e hk
      have h3 := ((G.ti t).of (by rw [hk]; simp)).1
      rw [hk] at h3
      exact All.ret ⟨_, run_eqlP (equal_ptr_nil h3 none), VR_bool⟩
    · rename_i e hk
      have h3 := ((G.ti t).of (by rw [hk]; simp)).1
      rw [hk] at h3
      exact All.ret ⟨_, run_neqP (equal_ptr_nil h3 none), VR_bool⟩
    · exact All.fail
  iterate 6
    · have hp : (∃ ad, vx = .pointer (some ad) ∧ vy = .pointer none) ∨ (∃ ad, vx = .pointer none ∧ vy = .pointer (some ad)) := by
        simp only [VR] at hx hy
        first
          | (subst hy; obtain ⟨_, _, _, rfl⟩ := hx; exact .inl ⟨_, rfl, rfl⟩)
          | (subst hx; obtain ⟨_, _, _, rfl⟩ := hy; exact .inr ⟨_, rfl, rfl⟩)
          | (subst hy; obtain ⟨_, _, _, rfl, _⟩ := hx; exact .inl ⟨_, rfl, rfl⟩)
          | (subst hx; obtain ⟨_, _, _, rfl, _⟩ := hy; exact .inr ⟨_, rfl, rfl⟩)
      split
      · rename_i e hk
        have h3 := ((G.ti t).of (by rw [hk]; simp)).1
        rw [hk] at h3
        rcases hp with ⟨ad, rfl, rfl⟩ | ⟨ad, rfl, rfl⟩
        · exact All.ret ⟨_, run_eqlP (equal_ptr_some h3 ad), VR_bool⟩
        · exact All.ret ⟨_, run_eqlP (equal_ptr_nil h3 (some ad)), VR_bool⟩
      · rename_i e hk
        have h3 := ((G.ti t).of (by rw [hk]; simp)).1
        rw [hk] at h3
        rcases hp with ⟨ad, rfl, rfl⟩ | ⟨ad, rfl, rfl⟩
        · exact All.ret ⟨_, run_neqP (equal_ptr_some h3 ad), VR_bool⟩
        · exact All.ret ⟨_, run_neqP (equal_ptr_nil h3 (some ad)), VR_bool⟩
      · exact All.fail
  iterate 2
    · have hp : (∃ u z, vx = .iface u z ∧ vy = .nilIface) ∨ (∃ u z, vx = .nilIface ∧ vy = .iface u z) := by
        simp only [VR] at hx hy
        first
          | (subst hy; obtain ⟨_, rfl, _⟩ := hx; exact .inl ⟨_, _, rfl, rfl⟩)
          | (subst hx; obtain ⟨_, rfl, _⟩ := hy; exact .inr ⟨_, _, rfl, rfl⟩)
      split
      · rename_i hk
        have h3 := ((G.ti t).of (by rw [hk]; simp)).1
        rw [hk] at h3
        obtain ⟨ms, h3⟩ := h3
        rcases hp with ⟨u, z, rfl, rfl⟩ | ⟨u, z, rfl, rfl⟩
        · exact All.ret ⟨_, run_eqlI (equal_iface_nil h3 u z), VR_bool⟩
        · exact All.ret ⟨_, run_eqlI' (equal_nil_iface h3 u z), VR_bool⟩
      · rename_i hk
        have h3 := ((G.ti t).of (by rw [hk]; simp)).1
        rw [hk] at h3
        obtain ⟨ms, h3⟩ := h3
        rcases hp with ⟨u, z, rfl, rfl⟩ | ⟨u, z, rfl, rfl⟩
        · exact All.ret ⟨_, run_neqI (equal_iface_nil h3 u z), VR_bool⟩
        · exact All.ret ⟨_, run_neqI' (equal_nil_iface h3 u z), VR_bool⟩
      · exact All.fail
  · exact All.fail
end
end Go.VG
