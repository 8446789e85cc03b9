/-
  A part of the proof.
-/
import Derived.Test.YtllncocibkgjkaaGreatTRk
import Derived.Test.YtllncocibkgjkaaGreatB
import Derived.Test.YtllncocibkgjkaaGreatVgZC
import Derived.TacticsInMore
import Derived.Test.YtllncocibkgjkaaGreatTRs
import Derived.Test.YtllncocibkgjkaaGreatTRa
import Derived.Test.YtllncocibkgjkaaGreatTRf
import Derived.Test.YtllncocibkgjkaaGreatTRb
import Derived.Test.YtllncocibkgjkaaGreatKB
import Derived.Test.YtllncocibkgjkaaGreatKG
set_option linter.unusedSimpArgs false
set_option linter.unusedVariables false
set_option maxHeartbeats 4000000
namespace Go.Proofs.YtllncocibkgjkaaGreat
open Go Go.VG
set_option maxRecDepth 100000
def adv (c : Cu) (n : Nat) : Cu := { c with p := c.p + n }
end Go.Proofs.YtllncocibkgjkaaGreat
namespace Go.Proofs.YtllncocibkgjkaaGreat
open Go Go.VG
set_option maxRecDepth 100000
theorem y9 {c : Cu} (hc : c.live) (h : c.ay = 0) : TkR c.next.2 ∧ c.next.2.t.length ≤ 4 * c.s.length := by
 obtain ⟨_, _, _, _, hn⟩ := b8 hc h
 have h2 : c.aX.2.k ≠ 0 := by
  unfold Cu.ay at h
  split at h
  . rename_i q; exact absurd h q
  . split at h
    . cases h
    . rename_i q; rw [← hn]; exact q
 rw [hn]
 exact ⟨JF hc.1 h2, JE hc.1⟩
structure iw (d m : Nat) (x : It) : Prop where
 t : TT d x.1 x.2
 n : NbL m x.1
def VTT (d : Nat) : Prop := ∀ (m : Nat) (c : Cu) (key : List UInt8), c.live → c.ay = 0 → 4 * c.s.length ≤ m → key.length ≤ m → (gv d c.next.2 key c.next.1).1 = 0 → ∃ x, iw d m ((gv d c.next.2 key c.next.1).2.1, x) ∧ fB ((gv d c.next.2 key c.next.1).2.1, x) = key
theorem Ab {d : Nat} (hv : VTT d) {m : Nat} : ∀ (n : Nat) (c : Cu) (acc : List Nd) (its : List It), c.live → c.ay = 0 → 4 * c.s.length ≤ m → acc = dd its → (∀ x ∈ its, iw d m x ∧ fB x = []) → (fi (gv d) n c.next.2 c.next.1 acc).1 = 0 →
   ∃ l, (fi (gv d) n c.next.2 c.next.1 acc).2.1 = dd l ∧ ∀ x ∈ l, iw d m x ∧ fB x = []
 | 0, _, _, _, _, _, _, _, _, h => by rw [fi] at h; cases h
 | n + 1, c, acc, its, hc, h0, hm, ha, hi, h => by
   rw [fi] at h ⊢
   obtain ⟨t1, t2, _⟩ := b8 hc h0
   by_cases h1 : (gv d c.next.2 [] c.next.1).1 ≠ 0
   . rw [if_pos h1] at h; exact absurd h h1
   rw [if_neg h1] at h ⊢
   have f1 := fA d c.next.2 [] c.next.1 t1 (by omega)
   obtain ⟨x, hx, hk⟩ := hv m c [] hc h0 hm (Nat.zero_le _) (by omega)
   have hi2 : ∀ y ∈ its ++ [((gv d c.next.2 [] c.next.1).2.1, x)], iw d m y ∧ fB y = [] := fun y hy => by
    rcases List.mem_append.1 hy with hy | hy
    . exact hi y hy
    . rw [List.mem_singleton] at hy; rw [hy]; exact ⟨hx, hk⟩
   have ha2 : acc ++ (gv d c.next.2 [] c.next.1).2.1 = dd (its ++ [((gv d c.next.2 [] c.next.1).2.1, x)]) := by
    rw [uI, ha]; show _ = _ ++ (_ ++ []); rw [List.append_nil]
   by_cases h2 : (gv d c.next.2 [] c.next.1).2.2.ay ≠ 0
   . rw [if_pos h2] at h; exact absurd h h2
   rw [if_neg h2] at h ⊢
   obtain ⟨l1, l2, _⟩ := b8 f1.live (by omega)
   have fs := f1.s
   by_cases h3 : (gv d c.next.2 [] c.next.1).2.2.next.2.k.toNat = 93
   . rw [if_pos h3]
     exact ⟨_, ha2, hi2⟩
   rw [if_neg h3] at h ⊢
   by_cases h4 : (gv d c.next.2 [] c.next.1).2.2.next.2.k.toNat ≠ 44
   . rw [if_pos h4] at h; cases h
   rw [if_neg h4] at h ⊢
   by_cases h5 : (gv d c.next.2 [] c.next.1).2.2.next.1.ay ≠ 0
   . rw [if_pos h5] at h; exact absurd h h5
   rw [if_neg h5] at h ⊢
   exact Ab hv n _ _ _ l1 (by omega) (by rw [l2, fs, t2]; exact hm) ha2 hi2 h
theorem Ak {d : Nat} (hv : VTT d) {m : Nat} : ∀ (n : Nat) (c : Cu) (ks : List (List UInt8)) (acc : List Nd) (its : List It), c.live → c.ay = 0 → 4 * c.s.length ≤ m → acc = dd its → ks = its.map fB → ks.Nodup → (∀ x ∈ its, iw d m x ∧ dk (fB x)) → (fj (gv d) n c.next.2 c.next.1 ks acc).1 = 0 →
   ∃ l, (fj (gv d) n c.next.2 c.next.1 ks acc).2.1 = dd l ∧ (l.map fB).Nodup ∧ ∀ x ∈ l, iw d m x ∧ dk (fB x)
 | 0, _, _, _, _, _, _, _, _, _, _, _, h => by rw [fj] at h; cases h
 | n + 1, c, ks, acc, its, hc, h0, hm, ha, hks, hnd, hi, h => by
   rw [fj] at h ⊢
   obtain ⟨t1, t2, _⟩ := b8 hc h0
   by_cases a0 : du c.next.2 c.next.1 ks ≠ 0
   . rw [if_pos a0] at h; exact absurd h a0
   rw [if_neg a0] at h ⊢
   obtain ⟨m1, m2, m3, m4, m5⟩ := sw (t := c.next.2) (ks := ks) t1 (by omega)
   obtain ⟨a1, a2, _⟩ := b8 t1 m3
   obtain ⟨b1, b2, _⟩ := b8 a1 m5
   by_cases h1 : (bp (gv d) c.next.2 c.next.1).1 ≠ 0
   . rw [if_pos h1] at h; exact absurd h h1
   rw [if_neg h1] at h ⊢
   obtain ⟨r1, r2⟩ := y9 hc h0
   have f1 : Fit c.next.1.next.1.next.1 (bp (gv d) c.next.2 c.next.1) := fA d _ _ _ b1 (show (bp (gv d) c.next.2 c.next.1).1 = 0 by omega)
   obtain ⟨x, hx, hk⟩ := hv m c.next.1.next.1 c.next.2.t a1 m5 (by rw [a2, t2]; exact hm) (by omega) (show (bp (gv d) c.next.2 c.next.1).1 = 0 by omega)
   have hx : iw d m ((bp (gv d) c.next.2 c.next.1).2.1, x) := hx
   have hk : fB ((bp (gv d) c.next.2 c.next.1).2.1, x) = c.next.2.t := hk
   have htx : dk c.next.2.t := by
    rcases r1 with ⟨_, q⟩ | ⟨q, _⟩ | ⟨q, _⟩ | ⟨q, _⟩
    . exact q
    . rw [q] at m1; exact absurd m1 (by decide)
    . have q : c.next.2.k.toNat = 123 ∨ c.next.2.k.toNat = 125 ∨ c.next.2.k.toNat = 91 ∨ c.next.2.k.toNat = 93 ∨ c.next.2.k.toNat = 58 ∨ c.next.2.k.toNat = 44 := of_decide_eq_true q
      omega
    . rcases q with q | q | q <;> (rw [q] at m1; exact absurd m1 (by decide))
   have hi2 : ∀ y ∈ its ++ [((bp (gv d) c.next.2 c.next.1).2.1, x)], iw d m y ∧ dk (fB y) := fun y hy => by
    rcases List.mem_append.1 hy with hy | hy
    . exact hi y hy
    . rw [List.mem_singleton] at hy; rw [hy]; exact ⟨hx, by rw [hk]; exact htx⟩
   have ha2 : acc ++ (bp (gv d) c.next.2 c.next.1).2.1 = dd (its ++ [((bp (gv d) c.next.2 c.next.1).2.1, x)]) := by
    rw [uI, ha]; show _ = _ ++ (_ ++ []); rw [List.append_nil]
   have hks2 : ks ++ [c.next.2.t] = (its ++ [((bp (gv d) c.next.2 c.next.1).2.1, x)]).map fB := by
    rw [List.map_append, hks]; show _ = _ ++ [fB _]; rw [hk]
   have hnd2 : (ks ++ [c.next.2.t]).Nodup := by
    refine List.nodup_append.2 ⟨hnd, by simp, ?_⟩
    intro a ha b hb e
    rw [List.mem_singleton] at hb
    rw [← hb, ← e] at m2
    exact m2 ha
   by_cases h2 : (bp (gv d) c.next.2 c.next.1).2.2.ay ≠ 0
   . rw [if_pos h2] at h; exact absurd h h2
   rw [if_neg h2] at h ⊢
   obtain ⟨l1, l2, _⟩ := b8 f1.live (by omega)
   have fs := f1.s
   by_cases h3 : (bp (gv d) c.next.2 c.next.1).2.2.next.2.k.toNat = 125
   . rw [if_pos h3]
     exact ⟨_, ha2, by rw [← hks2]; exact hnd2, hi2⟩
   rw [if_neg h3] at h ⊢
   by_cases h4 : (bp (gv d) c.next.2 c.next.1).2.2.next.2.k.toNat ≠ 44
   . rw [if_pos h4] at h; cases h
   rw [if_neg h4] at h ⊢
   by_cases h5 : (bp (gv d) c.next.2 c.next.1).2.2.next.1.ay ≠ 0
   . rw [if_pos h5] at h; exact absurd h h5
   rw [if_neg h5] at h ⊢
   exact Ak hv n _ _ _ _ l1 (by omega) (by rw [l2, fs, b2, a2, t2]; exact hm) ha2 hks2 hnd2 hi2 h
theorem By {m : Nat} {l : List It} (h : ∀ x ∈ l, NbL m x.1) : NbL m (dd l) := fun z hz => by
 obtain ⟨x, hx, hz⟩ := uJ hz
 exact h x hx z hz
theorem B8 {d m : Nat} {t : Tk} {key : List UInt8} (h : TkR t) (hl : ez t.k = true) (h1 : t.t.length ≤ m) (h2 : key.length ≤ m) : ∃ x, iw d m ([⟨t.k, key, t.t, 1⟩], x) ∧ fB (([⟨t.k, key, t.t, 1⟩] : List Nd), x) = key :=
 ⟨_, ⟨.leaf d t.k key t.t h hl, fun z hz => by rw [List.mem_singleton] at hz; rw [hz]; exact ⟨h2, h1⟩⟩, rfl⟩
theorem uW : ∀ d, VTT d
 | 0 => fun m c key hc h0 hm hk h => by
   obtain ⟨r1, r2⟩ := y9 hc h0
   rw [gv] at h ⊢
   by_cases h1 : c.next.2.k.toNat = 123 ∨ c.next.2.k.toNat = 91
   . rw [if_pos h1] at h; cases h
   rw [if_neg h1] at h ⊢
   by_cases h2 : ez c.next.2.k = true
   . rw [if_pos h2]; exact B8 r1 h2 (by omega) hk
   . rw [if_neg h2] at h; cases h
 | d + 1 => fun m c key hc h0 hm hk h => by
   obtain ⟨r1, r2⟩ := y9 hc h0
   obtain ⟨t1, t2, _⟩ := b8 hc h0
   have hnk := vG hc h0
   have hsg : c.next.2.k.toNat = 123 ∨ c.next.2.k.toNat = 91 → c.next.2.t = [] := fun q => by
    rcases hnk with ⟨_, e⟩ | ⟨_, e⟩
    . exact e
    . rw [wo q] at e; cases e
   rw [gv] at h ⊢
   by_cases h1 : c.next.2.k.toNat = 123
   . rw [if_pos h1] at h ⊢
     have e1 : c.next.2.k = 123 := UInt8.toNat_inj.1 (by rw [h1]; rfl)
     rw [hsg (.inl h1), e1]
     have key1 : ∃ l, (bf (gv d) c.next.1).2.1 = dd l ∧ (l.map fB).Nodup ∧ ∀ x ∈ l, iw d m x ∧ dk (fB x) := by
      have h : (bf (gv d) c.next.1).1 = 0 := h
      unfold bf at h ⊢
      by_cases a1 : c.next.1.ay ≠ 0
      . rw [if_pos a1] at h; exact absurd h a1
      rw [if_neg a1] at h ⊢
      by_cases a2 : c.next.1.next.2.k.toNat = 125
      . rw [if_pos a2]; exact ⟨[], rfl, by simp, fun _ hx => by cases hx⟩
      rw [if_neg a2] at h ⊢
      exact Ak (uW d) _ _ [] [] [] t1 (by omega) (by rw [t2]; exact hm) rfl rfl (by simp) (fun _ hx => by cases hx) h
     obtain ⟨l, q1, q2, q3⟩ := key1
     show ∃ x, iw (d + 1) m (⟨123, key, [], ((bf (gv d) c.next.1).2.1.length : Int) + 1⟩ :: (bf (gv d) c.next.1).2.1, x) ∧ key = key
     rw [q1]
     refine ⟨_, ⟨.obj d key l (fun x hx => (q3 x hx).1.t) q2 (fun x hx => (q3 x hx).2), fun z hz => ?_⟩, rfl⟩
     rcases List.mem_cons.1 hz with rfl | hz
     . exact ⟨hk, Nat.zero_le _⟩
     . exact By (fun x hx => (q3 x hx).1.n) z hz
   rw [if_neg h1] at h ⊢
   by_cases h2 : c.next.2.k.toNat = 91
   . rw [if_pos h2] at h ⊢
     have e1 : c.next.2.k = 91 := UInt8.toNat_inj.1 (by rw [h2]; rfl)
     rw [hsg (.inr h2), e1]
     have key1 : ∃ l, (bm (gv d) c.next.1).2.1 = dd l ∧ ∀ x ∈ l, iw d m x ∧ fB x = [] := by
      have h : (bm (gv d) c.next.1).1 = 0 := h
      unfold bm at h ⊢
      by_cases a1 : c.next.1.ay ≠ 0
      . rw [if_pos a1] at h; exact absurd h a1
      rw [if_neg a1] at h ⊢
      by_cases a2 : c.next.1.next.2.k.toNat = 93
      . rw [if_pos a2]; exact ⟨[], rfl, fun _ hx => by cases hx⟩
      rw [if_neg a2] at h ⊢
      exact Ab (uW d) _ _ [] [] t1 (by omega) (by rw [t2]; exact hm) rfl (fun _ hx => by cases hx) h
     obtain ⟨l, q1, q3⟩ := key1
     show ∃ x, iw (d + 1) m (⟨91, key, [], ((bm (gv d) c.next.1).2.1.length : Int) + 1⟩ :: (bm (gv d) c.next.1).2.1, x) ∧ key = key
     rw [q1]
     refine ⟨_, ⟨.lst d key l (fun x hx => (q3 x hx).1.t) (fun x hx => (q3 x hx).2), fun z hz => ?_⟩, rfl⟩
     rcases List.mem_cons.1 hz with rfl | hz
     . exact ⟨hk, Nat.zero_le _⟩
     . exact By (fun x hx => (q3 x hx).1.n) z hz
   rw [if_neg h2] at h ⊢
   by_cases h3 : ez c.next.2.k = true
   . rw [if_pos h3]; exact B8 r1 h3 (by omega) hk
   . rw [if_neg h3] at h; cases h
theorem M6 {s : List UInt8} (hl : s.length ≤ 10000000) (h : cQ s = 0) : ∃ x, TT 32 (d9 s) x ∧ NbL (4 * s.length) (d9 s) ∧ (hdN (d9 s)).key = [] := by
 have hc : (Cu.new s).live := ⟨⟨Nat.zero_le _, Nat.le_refl _⟩, rfl, hl⟩
 have e : d9 s = (gv 32 (Cu.new s).next.2 [] (Cu.new s).next.1).2.1 := by unfold d9; rw [if_pos h]
 unfold cQ at h
 by_cases h1 : (Cu.new s).ay ≠ 0
 . rw [if_pos h1] at h; exact absurd h h1
 rw [if_neg h1] at h
 by_cases h2 : (gv 32 (Cu.new s).next.2 [] (Cu.new s).next.1).1 ≠ 0
 . rw [if_pos h2] at h; exact absurd h h2
 obtain ⟨x, hx, hk⟩ := uW 32 (4 * s.length) (.new s) [] hc (by omega) (Nat.le_refl _) (Nat.zero_le _) (by omega)
 rw [e]
 exact ⟨x, hx.t, hx.n, hk⟩
end Go.Proofs.YtllncocibkgjkaaGreat
namespace Go.Proofs.YtllncocibkgjkaaGreat
open Go Go.VG
set_option maxRecDepth 100000
theorem as0' (w : World) : (Instr.typeAssert .nilIface 20 86 true).run Tryz.prog w = .ok (.tuple #[.int .i64 0, .bool false]) w := by rfl
theorem as1' (n : Int) (w : World) : (Instr.typeAssert (.iface 86 (.int .i64 n)) 20 86 true).run Tryz.prog w = .ok (.tuple #[.int .i64 n, .bool true]) w := by rfl
theorem as0 {ev : Operand → Value} {o : Oper} {x : Operand} (ho : o.op = .typeAssert x 20 86 true) (hx : ev x = .nilIface) (w : World) : (execOp ev o).run Tryz.prog w = .ok (.value (.tuple #[.int .i64 0, .bool false])) w := by
 simp only [execOp, ho, hx, Sem.run_bind, as0', Result.andThen_ok, Sem.run_pure]
theorem as1 {ev : Operand → Value} {o : Oper} {x : Operand} {n : Int} (ho : o.op = .typeAssert x 20 86 true) (hx : ev x = .iface 86 (.int .i64 n)) (w : World) : (execOp ev o).run Tryz.prog w = .ok (.value (.tuple #[.int .i64 n, .bool true])) w := by
 simp only [execOp, ho, hx, Sem.run_bind, as1', Result.andThen_ok, Sem.run_pure]
theorem p4 {ev : Operand → Value} {o : Oper} {x : Operand} {v : Value} {P : Program} (ho : o.op = .move x ∨ o.op = .assign x) (hx : ev x = v) (w : World) : (execOp ev o).run P w = .ok (.value v) w := by
 rcases ho with ho | ho <;> simp only [execOp, ho, hx, Sem.run_pure]
theorem tC {ev : Operand → Value} {o : Oper} {x : Operand} {i : Nat} {vs : Array Value} {v : Value} {P : Program} (ho : o.op = .extract x i) (hx : ev x = .tuple vs) (hv : vs[i]? = some v) (w : World) : (execOp ev o).run P w = .ok (.value v) w := by
 simp [execOp, ho, hx, Instr.extract, hv]
section
variable {P : Program} {ops : Array Oper} {Q : Exit → Act → List Frame → World → Prop} {i : Nat} {rest : List Nat} {a : Act} {cs : List Frame} {w : World} {o : Oper}
theorem j9 {v : Value} (ho : ops[i]? = some o) (hg : o.guard = none) (hx : (execOp a.eval o).run P w = .ok (.value v) w) (h : wpOpsSIn Fence.wide 0 P ops Q rest (a.put o.dst v) cs w) : wpOpsSIn Fence.wide 0 P ops Q (i :: rest) a cs w := by
 unfold wpOpsSIn
 rw [ho]
 refine ⟨fun _ _ => trivial, ?_⟩
 rw [if_pos (by simp [Region.wanted, hg]), hx]
 exact h
theorem LM {v : Value} {cs' : List Frame} (ho : ops[i]? = some o) (hg : o.guard = none) (hx : (execOp a.eval o).run P w = .ok .recover w) (hc : recoverD cs = some (v, cs')) (h : wpOpsSIn Fence.wide 0 P ops Q rest (a.put o.dst v) cs' w) : wpOpsSIn Fence.wide 0 P ops Q (i :: rest) a cs w := by
 unfold wpOpsSIn
 rw [ho]
 refine ⟨fun _ _ => trivial, ?_⟩
 rw [if_pos (by simp [Region.wanted, hg]), hx]
 show (match recoverD cs with | some (v, cs') => _ | none => _)
 rw [hc]
 exact h
theorem LL (ho : ops[i]? = some o) (hg : o.guard = none) (hx : (execOp a.eval o).run P w = .ok .recover w) (hc : recoverD cs = none) (h : wpOpsSIn Fence.wide 0 P ops Q rest (a.put o.dst .nilIface) cs w) : wpOpsSIn Fence.wide 0 P ops Q (i :: rest) a cs w := by
 unfold wpOpsSIn
 rw [ho]
 refine ⟨fun _ _ => trivial, ?_⟩
 rw [if_pos (by simp [Region.wanted, hg]), hx]
 show (match recoverD cs with | some (v, cs') => _ | none => _)
 rw [hc]
 exact h
end
theorem Bd (v1 v2 : Value) : [v1, v2].toArray ++ Array.replicate (11 - [v1, v2].toArray.size) undef = #[v1, v2, undef, undef, undef, undef, undef, undef, undef, undef, undef] := by rfl
theorem Di {v1 v2 y4 y5 y6 y7 y8 : Value} {n : Int} {b : Bool} (hn : -9223372036854775808 ≤ n ∧ n ≤ 9223372036854775807) : ∀ (st : St) (g : ah) (n' : Nat), ax st g [.ptr 0 0, .ptr 1 0] n' [v1, v2] → ∀ t, VR st g (lk [(3, .bool b), (2, .int .i64 n), (1, .ptr 1 0), (0, .ptr 0 0)] t) n' ((#[v1, v2, .int .i64 n, .bool b, y4, y5, y6, y7, y8, undef, undef] : Array Value).getD t undef) := by
 intro st g n' hv t
 obtain ⟨x1, q1, q2⟩ := jA hv (i := 0) rfl
 obtain ⟨x2, q3, q4⟩ := jA hv (i := 1) rfl
 cases q1; cases q3
 match t with
 | 0 => exact q2
 | 1 => exact q4
 | 2 => exact ⟨rfl, hn⟩
 | 3 => rfl
 | t + 4 => trivial
theorem E5 (σ : List O) (hσ : eA σ σ σ.length) : r8 Tryz.prog eG 40 [.ptr 0 0, .ptr 1 0] σ none σ := by
 refine za (C := cx []) (aq trivial) (cfn := Tryz.f40) (tm := [(3, .bool false), (2, .int .i64 0), (1, .ptr 1 0), (0, .ptr 0 0)]) rfl rfl rfl rfl (fun vs w c₀ cs Q hl hu h => ?_) ?_
 . obtain ⟨v1, v2, rfl⟩ : ∃ v1 v2, vs = [v1, v2] := by
     match vs, hl with
     | [v1, v2], _ => exact ⟨v1, v2, rfl⟩
   rw [show Tryz.f40.ntmps = 11 from rfl] at h ⊢
   rw [Bd]
   apply wpSIn_region
   show wpOpsSIn Fence.wide 0 Tryz.prog _ _ _ _ _ _
   refine LL rfl rfl rfl (by simp [recoverD, hu, lV]) ?_
   refine j9 (v := .tuple #[.int .i64 0, .bool false]) rfl rfl (as0 rfl rfl w) ?_
   refine j9 (v := .tuple #[.int .i64 0, .bool false]) rfl rfl (p4 (x := .tmp 6) (v := .tuple #[.int .i64 0, .bool false]) (.inl rfl) rfl w) ?_
   refine j9 (v := .int .i64 0) rfl rfl (tC (x := .tmp 4) (i := 0) (vs := #[.int .i64 0, .bool false]) (v := .int .i64 0) rfl rfl rfl w) ?_
   refine j9 (v := .bool false) rfl rfl (tC (x := .tmp 4) (i := 1) (vs := #[.int .i64 0, .bool false]) (v := .bool false) rfl rfl rfl w) ?_
   refine j9 (v := .int .i64 0) rfl rfl (p4 (x := .tmp 7) (v := .int .i64 0) (.inr rfl) rfl w) ?_
   refine j9 (v := .bool false) rfl rfl (p4 (x := .tmp 8) (v := .bool false) (.inr rfl) rfl w) ?_
   have hc0 : c₀ = { c₀ with mode := .returning } := by cases c₀; simp_all [lV]
   rw [hc0]
   refine h _ .returning rfl rfl rfl ?_
   exact Di (by decide)
 . repeat' ((conv => whnf); apply ak)
   all_goals try conv => whnf
   all_goals try (refine a9.mk ?_; try dsimp only)
   . rfl
   . exact hσ
   . exact Nat.ble_eq_true_of_le (Nat.le_refl _)
theorem ui (n : Int) (hm : -9223372036854775808 ≤ n ∧ n ≤ 9223372036854775807) : r8 Tryz.prog eG 40 [.ptr 0 0, .ptr 1 0] [.cells [.list true 0 []], .cells [.int .i64 0], .dead, .dead, .dead, .buf 1 0 []]
   (some (.iface 86 (.int .i64 n))) [.cells [.list true 0 []], .cells [.int .i64 n], .dead, .dead, .dead, .buf 1 0 []] := by
 refine za (C := cx []) (aq trivial) (cfn := Tryz.f40) (tm := [(3, .bool true), (2, .int .i64 n), (1, .ptr 1 0), (0, .ptr 0 0)]) rfl rfl rfl rfl (fun vs w c₀ cs Q hl hu h => ?_) ?_
 . obtain ⟨v1, v2, rfl⟩ : ∃ v1 v2, vs = [v1, v2] := by
     match vs, hl with
     | [v1, v2], _ => exact ⟨v1, v2, rfl⟩
   rw [show Tryz.f40.ntmps = 11 from rfl] at h ⊢
   rw [Bd]
   apply wpSIn_region
   show wpOpsSIn Fence.wide 0 Tryz.prog _ _ _ _ _ _
   refine LM (v := .iface 86 (.int .i64 n)) (cs' := { c₀ with mode := .panicking [{ v := .iface 86 (.int .i64 n), recovered := true }] } :: cs) rfl rfl rfl (by simp [recoverD, hu, lV]) ?_
   refine j9 (v := .tuple #[.int .i64 n, .bool true]) rfl rfl (as1 rfl rfl w) ?_
   refine j9 (v := .tuple #[.int .i64 n, .bool true]) rfl rfl (p4 (x := .tmp 6) (v := .tuple #[.int .i64 n, .bool true]) (.inl rfl) rfl w) ?_
   refine j9 (v := .int .i64 n) rfl rfl (tC (x := .tmp 4) (i := 0) (vs := #[.int .i64 n, .bool true]) (v := .int .i64 n) rfl rfl rfl w) ?_
   refine j9 (v := .bool true) rfl rfl (tC (x := .tmp 4) (i := 1) (vs := #[.int .i64 n, .bool true]) (v := .bool true) rfl rfl rfl w) ?_
   refine j9 (v := .int .i64 n) rfl rfl (p4 (x := .tmp 7) (v := .int .i64 n) (.inr rfl) rfl w) ?_
   refine j9 (v := .bool true) rfl rfl (p4 (x := .tmp 8) (v := .bool true) (.inr rfl) rfl w) ?_
   refine h _ (.panicking [{ v := .iface 86 (.int .i64 n), recovered := true }]) rfl rfl rfl ?_
   exact Di hm
 . repeat' ((conv => whnf); apply ak)
   all_goals try conv => whnf
   all_goals try (refine a9.mk ?_; try dsimp only)
   . rfl
   . (repeat' first | trivial | rfl | refine And.intro ?_ ?_)
   . rfl
end Go.Proofs.YtllncocibkgjkaaGreat
namespace Go.Proofs.YtllncocibkgjkaaGreat
open Go Go.VG
set_option maxRecDepth 100000
theorem sX (k : UInt8) : cj k = true ↔ (k.toNat = 123 ∨ k.toNat = 125 ∨ k.toNat = 91 ∨ k.toNat = 93 ∨ k.toNat = 58 ∨ k.toNat = 44) := decide_eq_true_iff
theorem GP (s : Sx) (key : List UInt8) (d : Int) (hp : d = 32 ∧ s.1.length ≤ 10000000) : OK 37 [fX s, .str key, .int .i64 d] [] (.tuple [.buf 0, fX (ar 0 key s).2.2, .int .i64 (ar 0 key s).1]) (some [dD (ar 0 key s).2.1]) := by
 refine au (C := cxl [(64, oZ), (67, qS)] [64]) (uV ⟨s9, vf, trivial⟩) (fn := Tryz.f37) rfl rfl rfl rfl fun hw hs => ?_
 have hml : (s.1.map vT).length = s.1.length := List.length_map _
 have g0 : az s ≠ 0 → ar 0 key s = (az s, [], s) := fun h => by rw [ar, if_pos h]
 have g1 : az s = 0 → (af s).k.toNat = 123 ∨ (af s).k.toNat = 91 → ar 0 key s = (33, [], s) := fun h h2 => by rw [ar, if_neg (by omega), if_pos h2]
 have g2 : az s = 0 → ¬ ((af s).k.toNat = 123 ∨ (af s).k.toNat = 91) → cj (af s).k = true → ar 0 key s = (3, [], s) := fun h h2 h3 => by rw [ar, if_neg (by omega), if_neg h2, if_pos h3]
 have g3 : az s = 0 → ¬ ((af s).k.toNat = 123 ∨ (af s).k.toNat = 91) → ¬ cj (af s).k = true → ar 0 key s = (0, [⟨(af s).k, key, (af s).t, 1⟩], ab s) := fun h h2 h3 => by rw [ar, if_neg (by omega), if_neg h2, if_neg h3]
 have hk := (af s).k.toNat_lt
 repeat' ((conv => whnf); first | apply ak | apply aW | (apply al <;> intro h))
 all_goals try conv => whnf
 all_goals try (refine a9.mk ?_; try dsimp only)
 all_goals (try simp only [iH, cv, kg, fR, cg] at *)
 all_goals (try (exfalso; omega))
 all_goals (try rw [if_pos (show az s = 0 by assumption)] at *)
 all_goals first | refine stay ?_ | (exact ⟨gH, trivial⟩) | (simp (discharger := omega) [-List.getD_eq_getElem?_getD, wR] <;> omega) | skip
 . rw [g1 (by assumption) (by omega)]
   (refine a8.mk [.tm 6 4, .swap 0 4] ?_ <;> (repeat' first | trivial | rfl | refine And.intro ?_ ?_))
 . rw [g1 (by assumption) (by omega)]
   (refine a8.mk [.tm 6 4, .swap 0 4] ?_ <;> (repeat' first | trivial | rfl | refine And.intro ?_ ?_))
 . rw [g2 (by assumption) (by omega) ((sX _).2 (by assumption))]
   (refine a8.mk [.tm 6 4, .swap 0 4] ?_ <;> (repeat' first | trivial | rfl | refine And.intro ?_ ?_))
 . rw [g3 (by assumption) (by omega) (fun q => absurd ((sX _).1 q) (by assumption))]
   refine a8.mk [.swap 0 4] ?_ <;> (repeat' first | trivial)
 . rw [g0 (by assumption)]
   (refine a8.mk [.tm 6 4, .swap 0 4] ?_ <;> (repeat' first | trivial | rfl | refine And.intro ?_ ?_))
theorem GQ (k : Nat) (hv : aw 65 (tx k)) (s : Sx) (key : List UInt8) (d : Int) (hp : d + k + 1 = 32 ∧ s.1.length ≤ 10000000) : OK 37 [fX s, .str key, .int .i64 d] [] (.tuple [.buf 0, fX (ar (k + 1) key s).2.2, .int .i64 (ar (k + 1) key s).1]) (some [dD (ar (k + 1) key s).2.1]) := by
 refine au (C := cxl [(64, oZ), (67, qS), (65, tx k), (66, xJ)] [64]) (uV ⟨s9, vf, hv, IS, trivial⟩) (fn := Tryz.f37) rfl rfl rfl rfl fun hw hs => ?_
 have hml : (s.1.map vT).length = s.1.length := List.length_map _
 have hd0 : -9223372036854775808 ≤ d := hw.2.2.1.1
 have hdw : IntKind.i64.wrap (d + 1) = d + 1 := by rw [c5]; omega
 have g0 : az s ≠ 0 → ar (k + 1) key s = (az s, [], s) := fun h => by rw [ar, if_pos h]
 have g1 : az s = 0 → (af s).k.toNat = 123 ∨ (af s).k.toNat = 91 → ar (k + 1) key s = ((b7 (ar k) ((af s).k.toNat + 2) (ab s)).1, ⟨(af s).k, key, [], (b7 (ar k) ((af s).k.toNat + 2) (ab s)).2.1.length + 1⟩ :: (b7 (ar k) ((af s).k.toNat + 2) (ab s)).2.1, (b7 (ar k) ((af s).k.toNat + 2) (ab s)).2.2) := fun h h2 => by rw [ar, if_neg (by omega), if_pos h2]
 have g2 : az s = 0 → ¬ ((af s).k.toNat = 123 ∨ (af s).k.toNat = 91) → cj (af s).k = true → ar (k + 1) key s = (3, [], s) := fun h h2 h3 => by rw [ar, if_neg (by omega), if_neg h2, if_pos h3]
 have g3 : az s = 0 → ¬ ((af s).k.toNat = 123 ∨ (af s).k.toNat = 91) → ¬ cj (af s).k = true → ar (k + 1) key s = (0, [⟨(af s).k, key, (af s).t, 1⟩], ab s) := fun h h2 h3 => by rw [ar, if_neg (by omega), if_neg h2, if_neg h3]
 have hk := (af s).k.toNat_lt
 have hr := di s
 have hw2 : (af s).k.toNat = 123 ∨ (af s).k.toNat = 91 → (IntKind.u8.wrap (((af s).k.toNat : Int) + 2)).toNat = (af s).k.toNat + 2 := fun h => by rw [kW]; omega
 have hw3 : (af s).k.toNat = 123 ∨ (af s).k.toNat = 91 → IntKind.u8.wrap (((af s).k.toNat : Int) + 2) = 93 ∨ IntKind.u8.wrap (((af s).k.toNat : Int) + 2) = 125 := fun h => by rw [kW]; omega
 have hm2 : ∀ L : List Nd, (L.map aR).length = L.length := fun L => List.length_map _
 have hm3 : ((ab s).1.map vT).length = (ab s).1.length := List.length_map _
 have hln : (b7 (ar k) ((af s).k.toNat + 2) (ab s)).2.1.length ≤ 10000000 := by
  by_cases h : (b7 (ar k) ((af s).k.toNat + 2) (ab s)).1 = 0
  . have := zf (nJ k) h; omega
  . rw [E8 h]; exact Nat.zero_le _
 repeat' ((conv => whnf); first | apply ak | apply aW | (apply al <;> intro h))
 all_goals try conv => whnf
 all_goals try (refine a9.mk ?_; try dsimp only)
 all_goals (try simp only [iH, cv, kg, fR, cg] at *)
 all_goals (try (exfalso; omega))
 all_goals (try rw [if_pos (show az s = 0 by assumption)] at *)
 all_goals first | refine stay ?_ | (exact ⟨gH, trivial⟩) | (simp (discharger := omega) [-List.getD_eq_getElem?_getD, wR] <;> omega) | skip
 all_goals (try rw [hw2 (by omega)] at *)
 all_goals (try rw [hdw] at *)
 all_goals (try rw [hm3] at *)
 all_goals (try simp only [hm2] at *)
 . exact ⟨gH, hw3 (by omega), by omega, by omega⟩
 . exact ⟨kJ, by omega, by omega⟩
 . rw [g1 (by assumption) (by omega)]
   refine a8.mk [.swap 0 6] ?_ <;> (repeat' first | trivial)
 . exact ⟨gH, hw3 (by omega), by omega, by omega⟩
 . exact ⟨kJ, by omega, by omega⟩
 . rw [g1 (by assumption) (by omega)]
   refine a8.mk [.swap 0 6] ?_ <;> (repeat' first | trivial)
 . rw [g2 (by assumption) (by omega) ((sX _).2 (by assumption))]
   (refine a8.mk [.tm 6 4, .swap 0 4] ?_ <;> (repeat' first | trivial | rfl | refine And.intro ?_ ?_))
 . rw [g3 (by assumption) (by omega) (fun q => absurd ((sX _).1 q) (by assumption))]
   refine a8.mk [.swap 0 4] ?_ <;> (repeat' first | trivial)
 . rw [g0 (by assumption)]
   (refine a8.mk [.tm 6 4, .swap 0 4] ?_ <;> (repeat' first | trivial | rfl | refine And.intro ?_ ?_))
theorem AV : ∀ k, aw 37 (kb k)
 | 0 => by
   intro args sg pre x r he hp
   unfold kb at he
   split at he <;> cases he
   rename_i l e key d
   obtain ⟨h1, h2, h3⟩ := hp
   have el : (cW l).length = l.length := by have h := congrArg List.length h1; rw [List.length_map] at h; exact h.symm
   rw [tK h1]
   exact GP (cW l, e) key d ⟨by omega, by show (cW l).length ≤ _; omega⟩
 | k + 1 => by
   have hv := IP k (AV k)
   intro args sg pre x r he hp
   unfold kb at he
   split at he <;> cases he
   rename_i l e key d
   obtain ⟨h1, h2, h3⟩ := hp
   have el : (cW l).length = l.length := by have h := congrArg List.length h1; rw [List.length_map] at h; exact h.symm
   rw [tK h1]
   exact GQ k hv (cW l, e) key d ⟨by omega, by show (cW l).length ≤ _; omega⟩
theorem J8 : aw 37 (kb 32) := AV 32
end Go.Proofs.YtllncocibkgjkaaGreat
namespace Go.Proofs.YtllncocibkgjkaaGreat
open Go Go.VG
set_option maxRecDepth 100000
def Cd (n : Int) : Prop := 0 ≤ n ∧ n ≤ 100
theorem cH {n : Int} (h : decide (0 ≤ n ∧ n ≤ 100) = true) : Cd n := by unfold Cd; exact of_decide_eq_true h
theorem um (t : List UInt8) : ∀ (n i : Nat) (a : Int), Cd (bA t n i a).2
 | 0, _, _ => by rw [bA]; exact cH rfl
 | n + 1, i, a => by
   rw [bA]
   repeat' split
   all_goals first
    | exact cH rfl
    | exact um t n _ _
theorem K9 (t : List UInt8) (i : Nat) (n : Int) : Cd (cP t i n).2.2 := by
 unfold cP
 repeat' split
 all_goals first
  | exact cH rfl
  | exact um _ _ _ _
theorem En (t : List UInt8) (i : Nat) : Cd (cO t i).2.2 := by
 unfold cO
 repeat' split
 all_goals first
  | exact cH rfl
  | exact um _ _ _ _
  | exact K9 _ _ _
theorem Kc (t : List UInt8) (i : Nat) : Cd (bJ t i).2.2 := by
 unfold bJ
 repeat' split
 all_goals first
  | exact cH rfl
  | exact En _ _
theorem Cc (t : List UInt8) : ∀ (n i : Nat) (o : List UInt8), Cd (ct t n i o).1
 | 0, _, _ => by rw [ct]; exact cH rfl
 | n + 1, i, o => by
   rw [ct]
   repeat' split
   all_goals first
    | exact cH rfl
    | exact Kc _ _
    | exact Cc t n _ _
theorem o9 {c : Cu} {k : Int} (h0 : c.c = 0) (h : Cd k) : Cd (c.fail k).c := by
 unfold Cu.fail
 rw [if_pos h0]; exact h
theorem KA {c : Cu} (h0 : c.c = 0) : Cd c.ea.1.c := by
 unfold Cu.ea
 repeat' split
 . exact absurd h0 (by assumption)
 . exact o9 h0 (cH rfl)
 . exact o9 h0 (cH rfl)
 . show Cd c.c; rw [h0]; exact cH rfl
 . exact o9 h0 (Cc _ _ _ _)
theorem vE (t : List UInt8) (i : Nat) : Cd (bW t i).2 := by
 unfold bW
 repeat' split
 all_goals exact cH rfl
theorem JN (t : List UInt8) (i : Nat) : Cd (bR t i).2 := by
 have hw : Cd (aM t i).2 := by
  unfold aM; split
  . exact cH rfl
  . exact vE _ _
 have hb : ∀ x, Cd x.2 → Cd (bz t x).2 := fun x hx => by
  unfold bz; split
  . exact vE _ _
  . exact hx
 have hp : ∀ x, Cd x.2 → Cd (gj t x).2 := fun x hx => by
  unfold gj; split
  . exact vE _ _
  . exact hx
 exact hp _ (hb _ hw)
theorem JM {c : Cu} (h0 : c.c = 0) : Cd c.fP.1.c := by
 unfold Cu.fP
 repeat' split
 . exact absurd h0 (by assumption)
 . exact o9 h0 (JN _ _)
 . show Cd c.c; rw [h0]; exact cH rfl
theorem Dn (c : Cu) : ∀ (s : List UInt8) (i : Nat), Cd (dj c s i)
 | [], _ => cH rfl
 | b :: s, i => by
   unfold dj
   repeat' split
   all_goals first
    | exact cH rfl
    | exact Dn c s _
theorem Dl {c : Cu} (h0 : c.c = 0) (k : UInt8) : Cd (c.cF k).1.c := by
 unfold Cu.cF
 split
 . exact o9 h0 (Dn _ _ _)
 . show Cd c.c; rw [h0]; exact cH rfl
theorem M0 {d : Cu} (h0 : d.c = 0) : Cd d.fK.1.c := by
 have z : Cd d.c := by rw [h0]; exact cH rfl
 unfold Cu.fK
 repeat' split
 . exact z
 . exact z
 . exact KA h0
 . exact JM h0
 . exact Dl h0 _
 . exact Dl h0 _
 . exact o9 h0 (cH rfl)
theorem JC {c : Cu} (h0 : c.c = 0) : Cd c.aX.1.c := by
 unfold Cu.aX
 rw [if_neg (by omega)]
 exact M0 (d := { c with p := cu cm c.aa c.p }) h0
theorem kR {c : Cu} (h : c.live) : Cd c.ay := by
 have hs := sD h.1
 unfold Cu.ay
 repeat' split
 . rw [hs.2.1]; exact JC h.2.1
 . exact cH rfl
 . exact cH rfl
def CdV (v : VF) : Prop := ∀ t key c, c.live → Cd (v t key c).1
theorem A9 {v : VF} (hf : iv v) (hv : CdV v) : ∀ (n : Nat) (t : Tk) (c : Cu) (acc : List Nd), c.live → Cd (fi v n t c acc).1
 | 0, _, _, _, _ => by rw [fi]; exact cH rfl
 | n + 1, t, c, acc, hc => by
   rw [fi]
   by_cases h1 : (v t [] c).1 ≠ 0
   . rw [if_pos h1]; exact hv _ _ _ hc
   rw [if_neg h1]
   have f1 := hf t [] c hc (by omega)
   by_cases h2 : (v t [] c).2.2.ay ≠ 0
   . rw [if_pos h2]; exact kR f1.live
   rw [if_neg h2]
   obtain ⟨l1, _⟩ := b8 f1.live (by omega)
   by_cases h3 : (v t [] c).2.2.next.2.k.toNat = 93
   . rw [if_pos h3]; exact cH rfl
   rw [if_neg h3]
   by_cases h4 : (v t [] c).2.2.next.2.k.toNat ≠ 44
   . rw [if_pos h4]; exact cH rfl
   rw [if_neg h4]
   by_cases h5 : (v t [] c).2.2.next.1.ay ≠ 0
   . rw [if_pos h5]; exact kR l1
   rw [if_neg h5]
   obtain ⟨m1, _⟩ := b8 l1 (by omega)
   exact A9 hf hv n _ _ _ m1
theorem HB {v : VF} (hf : iv v) (hv : CdV v) {c : Cu} (hc : c.live) : Cd (bm v c).1 := by
 unfold bm
 by_cases h1 : c.ay ≠ 0
 . rw [if_pos h1]; exact kR hc
 rw [if_neg h1]
 obtain ⟨l1, _⟩ := b8 hc (by omega)
 split
 . exact cH rfl
 . exact A9 hf hv _ _ _ _ l1
theorem Ai {v : VF} (hf : iv v) (hv : CdV v) : ∀ (n : Nat) (t : Tk) (c : Cu) (ks : List (List UInt8)) (acc : List Nd), c.live → Cd (fj v n t c ks acc).1
 | 0, _, _, _, _, _ => by rw [fj]; exact cH rfl
 | n + 1, t, c, ks, acc, hc => by
   rw [fj]
   by_cases h0 : du t c ks ≠ 0
   . rw [if_pos h0]
     show Cd (du t c ks)
     unfold du
     repeat' split
     all_goals first
      | exact cH rfl
      | exact kR hc
      | exact kR (b8 hc (by omega)).1
   rw [if_neg h0]
   obtain ⟨_, _, q1, _, q2⟩ := sw (t := t) (ks := ks) hc (by omega)
   obtain ⟨a1, _⟩ := b8 hc q1
   obtain ⟨b1, _⟩ := b8 a1 q2
   by_cases h1 : (bp v t c).1 ≠ 0
   . rw [if_pos h1]; exact hv _ _ _ b1
   rw [if_neg h1]
   have f1 : Fit c.next.1.next.1 (bp v t c) := hf _ _ _ b1 (show (bp v t c).1 = 0 by omega)
   by_cases h2 : (bp v t c).2.2.ay ≠ 0
   . rw [if_pos h2]; exact kR f1.live
   rw [if_neg h2]
   obtain ⟨l1, _⟩ := b8 f1.live (by omega)
   by_cases h3 : (bp v t c).2.2.next.2.k.toNat = 125
   . rw [if_pos h3]; exact cH rfl
   rw [if_neg h3]
   by_cases h4 : (bp v t c).2.2.next.2.k.toNat ≠ 44
   . rw [if_pos h4]; exact cH rfl
   rw [if_neg h4]
   by_cases h5 : (bp v t c).2.2.next.1.ay ≠ 0
   . rw [if_pos h5]; exact kR l1
   rw [if_neg h5]
   obtain ⟨m1, _⟩ := b8 l1 (by omega)
   exact Ai hf hv n _ _ _ _ m1
theorem HC {v : VF} (hf : iv v) (hv : CdV v) {c : Cu} (hc : c.live) : Cd (bf v c).1 := by
 unfold bf
 by_cases h1 : c.ay ≠ 0
 . rw [if_pos h1]; exact kR hc
 rw [if_neg h1]
 obtain ⟨l1, _⟩ := b8 hc (by omega)
 split
 . exact cH rfl
 . exact Ai hf hv _ _ _ _ _ l1
theorem uX : ∀ k, CdV (gv k)
 | 0 => fun t key c hc => by
   rw [gv]
   repeat' split
   all_goals exact cH rfl
 | k + 1 => fun t key c hc => by
   rw [gv]
   repeat' split
   . exact HC (fA k) (uX k) hc
   . exact HB (fA k) (uX k) hc
   all_goals exact cH rfl
end Go.Proofs.YtllncocibkgjkaaGreat
namespace Go.Proofs.YtllncocibkgjkaaGreat
open Go Go.VG
set_option maxRecDepth 100000
noncomputable def cxr (l : List (Nat × Sm)) (p : List (Nat × eF)) (h : List (Nat × List eo)) : Ctx := ⟨Tryz.prog, tt, eG, fun f => lU l f, fun _ _ _ => False, fun r => oD h r, fun _ => false, fun _ _ _ _ => none, fun f => oE p f, fun _ => false⟩
theorem goodr {l : List (Nat × Sm)} {p : List (Nat × eF)} {hs : List (Nat × List eo)} (h : mn l) (hp : OKp p) : bP (cxr l p hs) where
 ti := pc
 mt := fun _ _ _ h => h.elim
 hm := qt
 gam := fun f args sg pre x r h' hp => oF h args sg pre x r h' hp
 del := fun f args sg pre c u r x r2 h' hq => sr hp args sg pre c u r x r2 h' hq
theorem H5 (s : List UInt8) (hp : s.length ≤ 10000000) : OK 13 [.str s] [] (.tuple [.buf 0, .int .i64 (cQ s)]) (some [.buf 4 0 ((d9 s).map aR)]) := by
 refine Hw (C := cxr [(39, sZ)] [(42, kM), (41, il 32), (43, vR)] [(3, [.cell 3 1 4])]) (goodr ⟨AA, trivial⟩ ⟨mV, AX 32, Jb, trivial⟩) (gf := 40) (fn := Tryz.f13) rfl rfl rfl rfl rfl rfl rfl rfl rfl rfl fun hw hs => ?_
 have hc : (Cu.new s).live := ⟨⟨Nat.zero_le _, Nat.le_refl _⟩, rfl, hp⟩
 have hn := fun h => b8 hc h
 have hrg : ∀ {n : Int}, Cd n → -9223372036854775808 ≤ n ∧ n ≤ 9223372036854775807 := fun h => ⟨by have := h.1; omega, by have := h.2; omega⟩
 have hnil : ∀ {n : Int}, cQ s = n → n ≠ 0 → d9 s = [] := fun h h0 => by unfold d9; rw [if_neg (by rw [h]; exact h0)]
 repeat' ((conv => whnf); first | with_reducible refine gb ?_ (fun h => ?_) fun h => ?_ | apply ak)
 all_goals try conv => whnf
 all_goals try (refine a9.mk ?_; try dsimp only)
 all_goals (try simp only [aK, l0] at *)
 . rfl
 . exact ⟨trivial, hc.1, hc.2.2⟩
 . have e : cQ s = (Cu.new s).ay := by unfold cQ; rw [if_pos (by assumption)]
   rw [hnil e (by assumption), e]
   refine kY.mk _ (ui _ (hrg (kR hc))) rfl ?_
   refine a8.mk [.cell 0 0 4, .swap 0 6] ?_ <;> (repeat' first | trivial)
 all_goals
  have h0 : ¬ (Cu.new s).ay ≠ 0 := by assumption
  obtain ⟨l1, l2, l3, l4, _⟩ := hn (by omega)
  have hkk := (Cu.new s).next.2.k.toNat_lt
  have le := l1.1
  have he : (Cu.new s).e = s.length := rfl
  have fit := fA 32 (Cu.new s).next.2 [] (Cu.new s).next.1 l1
 . exact ⟨by omega, l1, by decide, ⟨[], rfl⟩, by show 0 + _ + 1 ≤ _; omega⟩
 . have e : cQ s = (gv 32 (Cu.new s).next.2 [] (Cu.new s).next.1).1 := by unfold cQ; rw [if_neg h0, if_pos (by assumption)]
   rw [hnil e (by assumption), e]
   refine kY.mk _ (ui _ (hrg (uX 32 _ _ _ l1))) rfl ?_
   refine a8.mk [.cell 0 0 4, .swap 0 6] ?_ <;> (repeat' first | trivial)
 all_goals
  have h1 : ¬ (gv 32 (Cu.new s).next.2 [] (Cu.new s).next.1).1 ≠ 0 := by assumption
  have f := fit (by omega)
 . exact ⟨trivial, f.live.1, f.live.2.2⟩
 . have e : cQ s = 2 := by unfold cQ; rw [if_neg h0, if_neg h1, if_pos (by assumption)]
   rw [hnil e (by decide), e]
   refine kY.mk _ (ui 2 (by decide)) rfl ?_
   refine a8.mk [.cell 0 0 4, .swap 0 6] ?_ <;> (repeat' first | trivial)
 . have e : cQ s = 0 := by unfold cQ; rw [if_neg h0, if_neg h1, if_neg (by assumption)]
   have el : d9 s = (gv 32 (Cu.new s).next.2 [] (Cu.new s).next.1).2.1 := by unfold d9; rw [if_pos e]
   rw [el, e]
   refine kY.mk _ (E5 _ ?_) rfl ?_
   . (repeat' first | trivial | rfl | refine And.intro ?_ ?_)
   refine a8.mk [.swap 0 4] ?_ <;> (repeat' first | trivial)
end Go.Proofs.YtllncocibkgjkaaGreat
namespace Go.Proofs.YtllncocibkgjkaaGreat
open Go Go.VG
set_option maxRecDepth 100000
theorem GN (s : List UInt8) (hp : s.length ≤ 10000000) : OK 8 ([.str s]) ([]) (.tuple [.buf 0, .int .i64 (hJ s)]) (some [dD (iO s)]) := by
 refine au (C := cx [(36, xI), (37, (kb 32))]) (aq ⟨IQ, (J8), trivial⟩) (fn := Tryz.f8) rfl rfl rfl rfl fun hw hs => ?_
 have hml : ((b6 (.new s)).1.map vT).length = (b6 (.new s)).1.length := List.length_map _
 have htl : (b6 (.new s)).1.length ≤ s.length := by
  have := CW (s.length + 1) (.new s) (BE s)
  exact this
 repeat' ((conv => whnf); first | apply ak | apply aW | (apply al <;> intro h))
 all_goals try conv => whnf
 all_goals try (refine a9.mk ?_; try dsimp only)
 all_goals (try simp only [iH, cv, kg, fR, cg] at *)
 all_goals (try (exfalso; omega))
 all_goals first | refine stay ?_ | trivial | skip
 all_goals (try have hmm : ((ar 32 [] (b6 (.new s))).2.2.1.map vT).length = (ar 32 [] (b6 (.new s))).2.2.1.length := List.length_map _)
 . exact ⟨gH, rfl, by omega⟩
 . have e : hJ s = 2 := by unfold hJ; rw [if_neg (by omega), if_pos (.inl (by omega))]
   have el : iO s = [] := by unfold iO; rw [if_neg (by rw [e]; decide)]
   rw [e, el]
   refine a8.mk [.tm 2 4, .swap 0 3] ?_ <;> (repeat' first | trivial)
 . have e : hJ s = 0 := by unfold hJ; rw [if_neg (by omega), if_neg (by omega)]
   have el : iO s = (ar 32 [] (b6 (.new s))).2.1 := by unfold iO; rw [if_pos e]
   rw [e, el]
   refine a8.mk [.swap 0 1] ?_ <;> (repeat' first | trivial)
 . have e : hJ s = 2 := by unfold hJ; rw [if_neg (by omega), if_pos (.inr (by assumption))]
   have el : iO s = [] := by unfold iO; rw [if_neg (by rw [e]; decide)]
   rw [e, el]
   refine a8.mk [.tm 2 4, .swap 0 3] ?_ <;> (repeat' first | trivial)
 . have e : hJ s = (ar 32 [] (b6 (.new s))).1 := by unfold hJ; rw [if_pos (by assumption)]
   have el : iO s = [] := by unfold iO; rw [if_neg (by rw [e]; assumption)]
   rw [e, el]
   refine a8.mk [.tm 2 4, .swap 0 3] ?_ <;> (repeat' first | trivial)
end Go.Proofs.YtllncocibkgjkaaGreat
namespace Go.Proofs.YtllncocibkgjkaaGreat
open Go Go.VG
set_option maxRecDepth 100000
def xM (R : List UInt8 → Int × List Nd) : Sm := fun args σ => match args, σ with
 | [.str s], [] => some (s.length ≤ 10000000, .tuple [.buf 0, .int .i64 (R s).1], some [dD (R s).2])
 | _, _ => none
theorem IW {R : List UInt8 → Int × List Nd} (hR : ∀ s, R s = (cQ s, d9 s)) : aw 13 (xM R) := by
 intro args sg pre x r he hp
 unfold xM at he
 split at he <;> cases he
 rw [hR]
 exact H5 _ hp
def qT (R : List UInt8 → Int × List Nd) : Sm := fun args σ => match args, σ with
 | [.str s], [] => some (s.length ≤ 10000000, .tuple [.buf 0, .int .i64 (R s).1], some [dD (R s).2])
 | _, _ => none
theorem vg {R : List UInt8 → Int × List Nd} (hR : ∀ s, R s = (cQ s, d9 s)) : aw 8 (qT R) := by
 intro args sg pre x r he hp
 unfold qT at he
 split at he <;> cases he
 rw [hR]
 have h := GN _ hp
 rw [(tH hp).1, (tH hp).2] at h
 exact h
theorem HD (d : Nat) {c : Cu} (hc : c.live) (t : Tk) (key : List UInt8) (h : (gv d t key c).1 = 0) : (gv d t key c).2.1.length ≤ c.s.length + 1 := by
 have f := fA d t key c hc h
 have h1 := f.len
 obtain ⟨h3, h4⟩ := f.live.1
 rw [f.e] at h3 h4
 rw [f.s] at h4
 omega
theorem M5 {s : List UInt8} (h : s.length ≤ 10000000) : (d9 s).length ≤ s.length + 1 := by
 unfold d9
 split
 . rename_i h0
   have hc : (Cu.new s).live := ⟨⟨Nat.zero_le _, Nat.le_refl _⟩, rfl, h⟩
   unfold cQ at h0
   by_cases h1 : (Cu.new s).ay ≠ 0
   . rw [if_pos h1] at h0; exact absurd h0 h1
   rw [if_neg h1] at h0
   obtain ⟨l1, l2, _⟩ := b8 hc (by omega)
   by_cases h2 : (gv 32 (Cu.new s).next.2 [] (Cu.new s).next.1).1 ≠ 0
   . rw [if_pos h2] at h0; exact absurd h0 h2
   have := HD 32 l1 (Cu.new s).next.2 [] (by omega)
   rw [l2] at this
   exact this
 . exact Nat.zero_le _
end Go.Proofs.YtllncocibkgjkaaGreat
namespace Go.Proofs.YtllncocibkgjkaaGreat
open Go Go.VG
set_option maxRecDepth 100000
theorem yb {s : List UInt8} (h : s.length ≤ 300) : cf (d9 s) ∧ (d9 s).length ≤ 301 := by
 have hl := M5 (s := s) (by omega)
 by_cases h0 : cQ s = 0
 . obtain ⟨x, h1, h2, h3⟩ := M6 (s := s) (by omega) h0
   have h5 := h1.sz
   exact ⟨⟨fun z hz => ⟨(h5 z hz).1, (h5 z hz).2, by have := (h2 z hz).1; omega, by have := (h2 z hz).2; omega⟩, by omega⟩, by omega⟩
 . have e : d9 s = [] := by unfold d9; rw [if_neg h0]
   rw [e]
   exact ⟨⟨fun _ hz => (by cases hz), Nat.zero_le _⟩, Nat.zero_le _⟩
theorem Mm {s : List UInt8} (h : (cX s).2 ≠ 0) : (cX s).1 = 0 := by
 have w : ∀ m l, (cM m l).2 ≠ 0 → (cM m l).1 = 0 := fun m l h => by
  unfold cM at h ⊢
  split
  . rename_i q; rw [if_pos q] at h; exact absurd rfl h
  . rfl
 have r : ∀ l, (c9 l).2 ≠ 0 → (c9 l).1 = 0 := fun l h => by
  unfold c9 at h ⊢
  split
  . rename_i q
    rw [if_pos q] at h
    split
    . rename_i q2; rw [if_pos q2] at h; exact w _ _ h
    . rfl
  . rename_i q
    rw [if_neg q] at h
    split
    . rename_i q2
      rw [if_pos q2] at h
      show -(cM _ _).1 = 0
      rw [w _ _ h]; rfl
    . rfl
 unfold cX gu at h ⊢
 repeat' split
 all_goals first
  | rfl
  | (refine r _ ?_; simp_all)
def nW (L : List Nd) (k : Int) : Int × Int := cX (L.getD k.toNat default).t
def kz (L : List Nd) (k : Int) : Int := if k < 0 then 0 else if (nW L k).2 ≠ 0 then 0 else (nW L k).1
def kx (L : List Nd) (k : Int) : Bool := if k < 0 then false else decide ((nW L k).2 = 0)
def ky (L : List Nd) (k e : Int) : Int := if k < 0 then e else (nW L k).2
theorem FC (c : Bool) (l : List V) (k : Int) (hp : gU l k ∧ 0 ≤ k) : OK 50 ([.int .i64 k, .ptr 0 0]) ([.cells [.list c 4 l]]) (.tuple [.int .i64 (nW (ao l) k).1, .int .i64 (nW (ao l) k).2]) (none) := by
 refine au (C := cx [(51, wX)]) (aq ⟨I6, trivial⟩) (fn := Tryz.f50) rfl rfl rfl rfl fun hw hs => ?_
 obtain ⟨hp, h0⟩ := hp
 obtain ⟨hN, hl, hk⟩ := hp
 obtain ⟨L, rfl, eL⟩ := jw hN
 rw [eL] at hl hk ⊢
 have hml : (L.map aR).length = L.length := List.length_map _
 have hn := kG hl (a := k.toNat) (by omega)
 unfold nW
 repeat' ((conv => whnf); first | apply ak | with_reducible apply gF)
 all_goals try conv => whnf
 all_goals try (refine a9.mk ?_; try dsimp only)
 all_goals (try simp only [cv, cg] at *)
 all_goals first | refine stay ?_ | trivial | omega | skip
 refine a8.mk [] ?_ <;> (repeat' first | trivial)
def tp : Sm := fun args σ => match args, σ with
 | [.int .i64 k, .ptr 0 0], [.cells [.list c 4 l]] => some (gU l k ∧ 0 ≤ k, .tuple [.int .i64 (nW (ao l) k).1, .int .i64 (nW (ao l) k).2], none)
 | _, _ => none
theorem AJ : aw 50 tp := by
 intro args sg pre x r he hp
 unfold tp at he
 split at he <;> cases he
 . exact FC (hp := hp) ..
theorem Fq (c : Bool) (l : List V) (k e : Int) (hp : gU l k) : OK 49 ([.int .i64 k, .int .i64 e, .func (.func 50) [] [.ptr 0 0]]) ([.cells [.list c 4 l]]) (.agg [.int .i64 (kz (ao l) k), .bool (kx (ao l) k), .int .i64 (ky (ao l) k e)]) (none) := by
 refine au (C := cx [(50, tp), (55, tf)]) (aq ⟨AJ, AG, trivial⟩) (fn := Tryz.f49) rfl rfl rfl rfl fun hw hs => ?_
 unfold kz kx ky
 repeat' ((conv => whnf); first | apply ak | apply aW | (apply al <;> intro h))
 all_goals try conv => whnf
 all_goals try (refine a9.mk ?_; try dsimp only)
 all_goals try refine stay ?_
 . rw [if_pos (by omega), if_pos (by omega), if_pos (by omega)]
   refine a8.mk [] ?_ <;> (repeat' first | trivial)
 . exact ⟨hp, by omega⟩
 . rw [if_neg (by omega), if_neg (show ¬ (nW _ _).2 ≠ 0 by omega), if_neg (by omega), decide_eq_true (by omega), if_neg (by omega), ‹(nW _ _).2 = 0›]
   refine a8.mk [] ?_ <;> (repeat' first | trivial)
 . rw [if_neg (by omega), if_pos (show (nW _ _).2 ≠ 0 by omega), if_neg (by omega), decide_eq_false (by omega), if_neg (by omega)]
   refine a8.mk [] ?_ <;> (repeat' first | trivial)
theorem Fs (k e : Int) (hp : True) : OK 49 ([.int .i64 k, .int .i64 e, .func (.func 55) [] []]) ([]) (.agg [.int .i64 (lI k), .bool (decide (k ≥ 0)), .int .i64 (dg k e)]) (none) := by
 refine au (C := cx [(50, tp), (55, tf)]) (aq ⟨AJ, AG, trivial⟩) (fn := Tryz.f49) rfl rfl rfl rfl fun hw hs => ?_
 unfold lI dg
 repeat' ((conv => whnf); first | apply ak | (apply al <;> intro h))
 all_goals try conv => whnf
 all_goals try (refine a9.mk ?_; try dsimp only)
 all_goals try refine stay ?_
 . rw [if_pos (by omega), if_pos (by omega), decide_eq_false (by omega)]
   refine a8.mk [] ?_ <;> (repeat' first | trivial)
 . rw [if_neg (by omega), if_neg (by omega), decide_eq_true (by omega)]
   refine a8.mk [] ?_ <;> (repeat' first | trivial)
def tb : Sm := fun args σ => match args, σ with
 | [.int .i64 k, .int .i64 e, .func (.func 50) [] [.ptr 0 0]], [.cells [.list c 4 l]] => some (gU l k, .agg [.int .i64 (kz (ao l) k), .bool (kx (ao l) k), .int .i64 (ky (ao l) k e)], none)
 | [.int .i64 k, .int .i64 e, .func (.func 55) [] []], [] => some (True, .agg [.int .i64 (lI k), .bool (decide (k ≥ 0)), .int .i64 (dg k e)], none)
 | _, _ => none
theorem AD : aw 49 tb := by
 intro args sg pre x r he hp
 unfold tb at he
 split at he <;> cases he
 . exact Fq (hp := hp) ..
 . exact Fs (hp := hp) ..
theorem FD (c : Bool) (l : List V) (q : Int) (key : List UInt8) (hp : cr l ∧ cf (ao l)) : OK 20 ([.list c 4 l, .int .i64 q, .str key]) ([]) (.agg [.int .i64 (kz (ao l) (aJ (ao l) q key 110 110).1), .bool (kx (ao l) (aJ (ao l) q key 110 110).1), .int .i64 (ky (ao l) (aJ (ao l) q key 110 110).1 (aJ (ao l) q key 110 110).2)]) (none) := by
 refine au (C := cx [(46, ni), (49, tb)]) (aq ⟨qa, AD, trivial⟩) (fn := Tryz.f20) rfl rfl rfl rfl fun hw hs => ?_
 obtain ⟨hN, hp⟩ := hp
 repeat' ((conv => whnf); apply ak)
 all_goals try conv => whnf
 all_goals try (refine a9.mk ?_; try dsimp only)
 all_goals first | refine stay ?_ | trivial | skip
 . exact ⟨hN, hp, sG _ _ _ _ _⟩
 . refine a8.mk [] ?_ <;> (repeat' first | trivial)
def tj : Sm := fun args σ => match args, σ with
 | [.list c 4 l, .int .i64 q, .str key], [] => some (cr l ∧ cf (ao l), .agg [.int .i64 (kz (ao l) (aJ (ao l) q key 110 110).1), .bool (kx (ao l) (aJ (ao l) q key 110 110).1), .int .i64 (ky (ao l) (aJ (ao l) q key 110 110).1 (aJ (ao l) q key 110 110).2)], none)
 | _, _ => none
theorem AI : aw 20 tj := by
 intro args sg pre x r he hp
 unfold tj at he
 split at he <;> cases he
 . exact FD (hp := hp) ..
theorem Fy (c : Bool) (l : List V) (q : Int) (key : List UInt8) (hp : cr l ∧ cf (ao l)) : OK 25 ([.list c 4 l, .int .i64 q, .str key]) ([]) (.agg [.int .i64 (lI (aJ (ao l) q key 123 123).1), .bool (decide ((aJ (ao l) q key 123 123).1 ≥ 0)), .int .i64 (dg (aJ (ao l) q key 123 123).1 (aJ (ao l) q key 123 123).2)]) (none) := by
 refine au (C := cx [(46, ni), (49, tb)]) (aq ⟨qa, AD, trivial⟩) (fn := Tryz.f25) rfl rfl rfl rfl fun hw hs => ?_
 obtain ⟨hN, hp⟩ := hp
 repeat' ((conv => whnf); apply ak)
 all_goals try conv => whnf
 all_goals try (refine a9.mk ?_; try dsimp only)
 all_goals first | refine stay ?_ | trivial | skip
 refine a8.mk [] ?_ <;> (repeat' first | trivial)
def td : Sm := fun args σ => match args, σ with
 | [.list c 4 l, .int .i64 q, .str key], [] => some (cr l ∧ cf (ao l), .agg [.int .i64 (lI (aJ (ao l) q key 123 123).1), .bool (decide ((aJ (ao l) q key 123 123).1 ≥ 0)), .int .i64 (dg (aJ (ao l) q key 123 123).1 (aJ (ao l) q key 123 123).2)], none)
 | _, _ => none
theorem AF : aw 25 td := by
 intro args sg pre x r he hp
 unfold td at he
 split at he <;> cases he
 . exact Fy (hp := hp) ..
theorem GW (c : Bool) (l : List V) (q : Int) (key : List UInt8) (hp : cr l ∧ cf (ao l)) : OK 23 ([.list c 4 l, .int .i64 q, .str key]) ([]) (.tuple [.int .i64 (kz (ao l) (aJ (ao l) q key 110 110).1), .bool (kx (ao l) (aJ (ao l) q key 110 110).1), .int .i64 (ky (ao l) (aJ (ao l) q key 110 110).1 (aJ (ao l) q key 110 110).2)]) (none) := by
 refine au (C := cx [(24, p0), (54, xA)]) (aq ⟨sa, IF, trivial⟩) (fn := Tryz.f23) rfl rfl rfl rfl fun hw hs => ?_
 obtain ⟨hN, hp⟩ := hp
 obtain ⟨L, rfl, eL⟩ := jw hN
 rw [eL] at hp ⊢
 have hml : (L.map aR).length = L.length := List.length_map _
 have hon := qF L q key 110 110
 have hn : 0 ≤ (aJ L q key 110 110).1 → ((L.getD (aJ L q key 110 110).1.toNat default).t).length ≤ 10000000 := fun h => (kG hp (by omega)).2.2.2
 unfold kz kx ky nW
 repeat' ((conv => whnf); first | apply ak | (apply al <;> intro h) | with_reducible apply gF)
 all_goals try conv => whnf
 all_goals try (refine a9.mk ?_; try dsimp only)
 all_goals (try simp only [cv] at *)
 all_goals generalize aJ L q key 110 110 = f at *
 all_goals first | refine stay ?_ | trivial | omega | skip
 . rw [if_pos (by omega), if_pos (by omega), if_pos (by omega)]
   refine a8.mk [] ?_ <;> (repeat' first | trivial)
 . have hv : (if (cX (L.getD f.1.toNat default).t).2 ≠ 0 then 0 else (cX (L.getD f.1.toNat default).t).1) = (cX (L.getD f.1.toNat default).t).1 := by
     split
     . exact (Mm ‹_›).symm
     . rfl
   rw [if_neg (by omega), hv, if_neg (by omega), if_neg (by omega)]
   refine a8.mk [] ?_ <;> (repeat' first | trivial)
def xL : Sm := fun args σ => match args, σ with
 | [.list c 4 l, .int .i64 q, .str key], [] => some (cr l ∧ cf (ao l), .tuple [.int .i64 (kz (ao l) (aJ (ao l) q key 110 110).1), .bool (kx (ao l) (aJ (ao l) q key 110 110).1), .int .i64 (ky (ao l) (aJ (ao l) q key 110 110).1 (aJ (ao l) q key 110 110).2)], none)
 | _, _ => none
theorem IU : aw 23 xL := by
 intro args sg pre x r he hp
 unfold xL at he
 split at he <;> cases he
 . exact GW (hp := hp) ..
def y1 : List UInt8 := [123, 34, 97, 34, 58, 49, 46, 48, 44, 34, 98, 34, 58, 110, 117, 108, 108, 44, 34, 99, 34, 58, 91, 116, 114, 117, 101, 93, 44, 34, 100, 34, 58, 123, 34, 101, 34, 58, 102, 97, 108, 115, 101, 125, 125]
instance : DecidableEq Nd := fun a b =>
 if h : a.k = b.k ∧ a.key = b.key ∧ a.t = b.t ∧ a.sz = b.sz then isTrue (by cases a; cases b; simp_all) else isFalse (by rintro rfl; exact h ⟨rfl, rfl, rfl, rfl⟩)
def m1 : List Nd := [⟨123, [], [], 7⟩, ⟨110, [97], [49, 46, 48], 1⟩, ⟨122, [98], [], 1⟩, ⟨91, [99], [], 2⟩, ⟨116, [], [], 1⟩, ⟨123, [100], [], 2⟩, ⟨102, [101], [], 1⟩]
theorem Dv : hJ y1 = 0 ∧ iO y1 = m1 := by decide +kernel
theorem m1_ok : cf m1 := ⟨by decide +kernel, by decide⟩
theorem oG : aJ m1 0 [97] 110 110 = (1, 0) ∧ aJ m1 0 [98] 115 115 = (-1, 0) ∧ aJ m1 0 [97] 115 115 = (-1, 7) ∧ aJ m1 0 [99] 91 91 = (3, 0) ∧ aJ m1 0 [100] 123 123 = (5, 0) ∧ aJ m1 5 [101] 116 102 = (6, 0) := by decide +kernel
theorem Bl : bN m1 0 [100] = 5 ∧ bN m1 1 [97] = -1 := by decide +kernel
theorem JA : lJ m1 3 = [4] := by decide +kernel
theorem m1_fF : lH m1 6 = false := by decide +kernel
theorem m1_fw : kx m1 1 = true ∧ kz m1 1 = 1 ∧ ky m1 1 0 = 0 := by decide +kernel
theorem m1_fE : dg (-1) 0 = 0 ∧ dg (-1) 7 = 7 ∧ lI 5 = 5 := by decide +kernel
theorem FE {R : List UInt8 → Int × List Nd} (hR : ∀ s, R s = (cQ s, d9 s)) : OK 15 [] [] (.bool true) none := by
 refine au (C := la [(13, xM R), (20, tj), (19, tg), (26, tc), (25, td), (21, ta), (17, qP)] [(2, [.cU 0])]) (aq ⟨IW hR, AI, AH, AE, AF, AB, va, trivial⟩) (fn := Tryz.f15) rfl rfl rfl rfl fun hw hs => ?_
 have a1 : R y1 = (0, m1) := by rw [hR, ← (tH (s := y1) (by decide)).1, ← (tH (s := y1) (by decide)).2, Dv.1, Dv.2]
 have hN : cr ((R y1).2.map aR) ∧ cf (ao ((R y1).2.map aR)) := by rw [cv, a1]; exact ⟨kJ, m1_ok⟩
 unfold y1 at a1 hN
 repeat' ((conv => whnf); first | apply ak | apply aW | ((first | apply al | apply jN) <;> intro h))
 all_goals try conv => whnf
 all_goals try (refine a9.mk ?_; try dsimp only)
 all_goals (try simp only [cv, a1, oG.1, oG.2.1, oG.2.2.1, oG.2.2.2.1, oG.2.2.2.2.1, m1_fE, oG.2.2.2.2.2, Bl.1, Bl.2, m1_fw, JA, m1_fF, not_true, not_false_iff, ne_eq] at *)
 all_goals first | refine stay ?_ | trivial | skip
 all_goals first
  | (exfalso; first | omega | exact Bool.noConfusion ‹false = true› | exact Bool.noConfusion ‹true = false› | exact ‹¬ (((List.map nI [4]).length : Nat) : Int) = 1› rfl)
  | (show a8 _ _ _ _ _ _
     refine a8.mk [] ?_ <;> (repeat' first | trivial)
     )
theorem FF  (hp : True) : OK 15 ([]) ([]) (.bool true) (none) := by
 exact FE (R := fun s => (cQ s, d9 s)) fun _ => rfl
def qQ : Sm := fun args σ => match args, σ with
 | [], [] => some (True, .bool true, none)
 | _, _ => none
theorem vb : aw 15 qQ := by
 intro args sg pre x r he hp
 unfold qQ at he
 split at he <;> cases he
 . exact FF (hp := hp) ..
end Go.Proofs.YtllncocibkgjkaaGreat
