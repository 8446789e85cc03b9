/-
  What a writer wrote without an error is JSON, if its texts are right and no key came twice in an object; it is read and laid as it is: the law JwriteRight answers true. Condition: the argument's bulk is at most 1048576.
-/
import Derived.Test.YtllncocibkgjkaaRows
import Derived.Test.YtllncocibkgjkaaRD
import Derived.Test.YtllncocibkgjkaaVgZ
import Derived.ProofKit
import Derived.OpenShut
import Derived.Deep.DeepHandedRow
set_option linter.unusedSimpArgs false
set_option linter.unusedVariables false
set_option maxHeartbeats 4000000
namespace Go.Proofs.Ytllncocibkgjkaa.jwriteRight
open Go Go.VG Go.ChangeShapes Go.WideShapes Go.ChangeAt Go.RowKit
set_option maxRecDepth 100000
theorem FC {y : V} {ys zs : List V} {z : V} {sz : Nat} (hb : Wk y z) (hbs : Wk (.list false sz ys) (.list false sz zs)) (hlen : ys.length = zs.length) : Wk (.list false sz (y :: ys)) (.list false sz (z :: zs)) := by
 intro st gg n v k
 simp only [VR] at k
 obtain ⟨base, cap, rfl, k1, k2, _, k3⟩ := k
 rcases k3 with k3 | ⟨bb, o, k4, k5, k6⟩
 . cases k3
 . have k7 : VR st gg (.list false sz ys) n (.slice (some ⟨bb, o + sz, none⟩) ys.length ys.length) := by
     simp only [VR]
     simp only [bf] at k6
     refine ⟨_, _, rfl, Nat.le_refl _, by simp at k2; omega, by simp, ?_⟩
     cases ys with
     | nil => exact .inl rfl
     | cons _ _ => exact .inr ⟨bb, o + sz, rfl, k5, k6.2⟩
   have k8 := hbs st gg n _ k7
   simp only [VR] at k8 ⊢
   refine ⟨base, cap, by simp [hlen], by simpa [hlen] using k1, by simpa [hlen] using k2, by simp, .inr ⟨bb, o, k4, k5, ?_⟩⟩
   simp only [bf] at k6 ⊢
   obtain ⟨⟨u, q1, q2⟩, _⟩ := k6
   refine ⟨⟨u, hb _ _ _ _ q1, q2⟩, ?_⟩
   obtain ⟨base', cap', e1, _, _, _, e2⟩ := k8
   rcases e2 with e2 | ⟨b2, o2, e3, _, e4⟩
   . rw [e2]; simp [bf]
   . simp only [Value.slice.injEq] at e1
     obtain ⟨e1, _, _⟩ := e1
     rw [e3] at e1
     cases e1
     exact e4
theorem yQ {H : Type} {g : DataW H → Option V} : ∀ {ds : List (DataW H)} {l : List V}, ds.mapM g = some l → (∀ d ∈ ds, ∀ x, g d = some x → ∃ o : di, Wk x (eo o) ∧ o.text.length ≤ Rows.uptoBulk d) →
   ∃ bs : List di, Wk (.list false 3 l) (.list false 3 (bs.map eo)) ∧ bs.length = ds.length ∧ ew bs ≤ Rows.uptoBulkAll ds
 | [], l, h, hd => by
   simp at h; subst h
   exact ⟨[], Wk.refl _, rfl, Nat.zero_le _⟩
 | d :: ds, l, h, hd => by
   obtain ⟨c, r, h1, h2, rfl⟩ := qS h
   obtain ⟨o, ho, hl⟩ := hd d (by simp) c h1
   obtain ⟨bs, hbs, hn, hs⟩ := yQ h2 fun e he => hd e (by simp [he])
   refine ⟨o :: bs, FC ho hbs ?_, by simp [hn], ?_⟩
   . rw [List.length_map, hn]; exact mapM_some_length h2
   . simp only [ew, Rows.uptoBulkAll]; omega
theorem BK {H : Type} {f : Nat} {d : DataW H} {xs : List V} (h : aP tt f 71 d = some xs) : ∃ o : di, cN xs [.int .u8 o.kind, .str o.text, .int .i64 o.n] ∧ o.text.length ≤ Rows.uptoBulk d := by
 obtain ⟨f', parts, xss, rfl, rfl, hlen, hm, rfl⟩ := Bz (fs := [(0, 5), (1, 9), (2, 3)]) rfl h
 match parts, hlen, hm with
 | [p0, p1, p2], _, hm0 =>
   obtain ⟨c0, r0, h0, hm1, rfl⟩ := qS hm0
   obtain ⟨c1, r1, h1, hm2, rfl⟩ := qS hm1
   obtain ⟨c2, r2, h2, hm3, rfl⟩ := qS hm2
   simp at hm3; subst hm3
   obtain ⟨k, rfl⟩ := wv (k := .u8) rfl h0
   obtain ⟨s, rfl, e1⟩ := By rfl h1
   obtain ⟨n, rfl⟩ := wv (k := .i64) rfl h2
   have e1 : p1 = .lit (.string s) := e1
   subst e1
   refine ⟨⟨k, s, n⟩, cN.refl _, ?_⟩
   simp only [Rows.uptoBulk, Rows.uptoBulkAll]; omega
theorem Ei {H : Type} {ds : List (DataW H)} {xs : List V} (h : jo tt Try.f9.params.toList ds xs) (hk : Rows.uptoBulkAll ds ≤ 1048576) : ez Try.prog fu 9 xs [] (.bool true) none := by
 rw [Try.params9] at h
 obtain ⟨d, x, rfl, rfl, hd⟩ := B8 h
 obtain ⟨f, hd⟩ := hd
 simp only [Option.bind_eq_some_iff] at hd
 obtain ⟨cs, h1, h2⟩ := hd
 rcases Bx (e := 71) rfl h1 with rfl | ⟨f', es, sp, l, rfl, rfl, hm, rfl⟩
 . have h2 : some (V.list true 3 []) = some x := h2
   cases h2
   refine (xm [] (Nat.zero_le _)).args (cN.cons (Wk.nil (.inl rfl)) cN.nil)
 . have h2 : some (V.list false 3 l) = some x := h2
   cases h2
   obtain ⟨bs, hb, _, hq⟩ := yQ hm fun d hd x hx => by
    simp only [Option.bind_eq_some_iff] at hx
    obtain ⟨cs, h1, h2⟩ := hx
    obtain ⟨o, ho, hl⟩ := BK h1
    have h2 : some (V.agg cs) = some x := h2
    cases h2
    exact ⟨o, Wk.agg ho, hl⟩
   refine (xm bs ?_).args (cN.cons hb cN.nil)
   simp only [Rows.uptoBulk, Rows.uptoBulkAll] at hk
   omega
theorem own : ownKnob Try.prog.godebug = none := by kernel_rfl
theorem laidOut : laidOutB Try.prog = true := by kernel_rfl
theorem glOf : s8 Try.prog tt mD Rows.jwriteRightUptoRow.laid fu := by
 intro b cs h
 cases h
theorem Bq {H : Type} {ds gs : List (DataW H)} (h : Rows.uptoSmall H (ds ++ gs) = true) : Rows.uptoBulkAll ds ≤ 1048576 := by
 have h := of_decide_eq_true h
 have e : ∀ l : List (DataW H), Rows.uptoBulkAll (l ++ gs) = Rows.uptoBulkAll l + Rows.uptoBulkAll gs := fun l => by
  induction l with
  | nil => simp [Rows.uptoBulkAll]
  | cons x l ih => simp only [List.cons_append, Rows.uptoBulkAll, ih]; omega
 rw [e] at h
 omega
theorem BH (H : Type) (enc : TypeId × Value → H) (W : World) (base : Nat) (args : Array Value) (ds gs : List (DataW H)) (before : List MemPlace)
   (hval : ∀ (j : Nat) t v, Try.f9.params[j]? = some t → args[j]? = some v → Value.okWide Try.prog W .any base t v)
   (hW : DataW.Whole enc Try.prog Try.f9.params.toList Rows.jwriteRightSpec.vars false W args.toList ds gs before) (hL : laidMetH Try.prog Rows.jwriteRightUptoRow.laid W) (hk : Rows.uptoSmall H (ds ++ gs) = true) :
   Calls Try.prog 9 args W fun e W' => ∃ v, e = .returned v ∧ Rows.jwriteRightSpec.post enc Try.prog Try.f9 false true false false W args v W' :=
 Fw (bt := 4) BJ laidOut (fun t ht => by
  rw [Try.params9] at ht
  simp at ht
  subst ht
  exact ⟨rfl, by kernel_rfl, by decide⟩) rfl rfl Try.underlying4 glOf hval hW hL (fun h => by
  match ds, h with
  | [d0], _ => rfl) fun xs h => Ei h (Bq hk)
noncomputable def tE (os : Os) : World := World.holding Try.prog os ⟨#[], #[], []⟩
def pZ : Array Value := #[.slice none 0 0]
theorem Fv (os : Os) : laidMet Try.prog Rows.jwriteRightUptoRow.laid ((tE os).forCall (fun _ _ => 0) ⟨#[], pZ, []⟩).memory :=
 laidMet_of_run' 8 (by kernel_rfl) (by kernel_rfl)
theorem reads (os : Os) {H : Type} (enc : TypeId × Value → H) : ∃ places, DataW.whole enc Try.prog ((tE os).forCall (fun _ _ => 0) ⟨#[], pZ, []⟩).memory Try.f9.params.toList Rows.jwriteRightSpec.vars false pZ.toList 8 = some ([.nil], [], places) :=
 ⟨[], by kernel_rfl⟩
theorem lifted (os : Os) (started : os.Started) (H : Type) (enc : TypeId × Value → H) (F : Stop.Interp) :
   ReturnsInHanded {} Try.checked os 9 .any ((Rows.OpenSpec.upto Rows.jwriteRightSpec).preRow enc Try.prog Try.f9 Rows.jwriteRightUptoRow.domain false Rows.jwriteRightUptoRow.laid) (((Rows.OpenSpec.upto Rows.jwriteRightSpec).at F).post enc Try.prog Try.f9 false true false false) := by
 obtain ⟨places, hx⟩ := reads os enc
 refine returnsInHanded_of_row (C := Try.checked) (s := Rows.OpenSpec.upto Rows.jwriteRightSpec) own started (by kernel_rfl) Try.func9
  (witness_row_at (enc := enc) (C := Try.checked) false (tE os) pZ rfl (by kernel_rfl) (by kernel_rfl) (by kernel_rfl)
   (OpenSpec.preRow_of_cond 8 hx (by kernel_rfl) (fun k hk => by cases hk; kernel_rfl) (by kernel_rfl) (Fv os))) ?_
 intro W base args ds gs before hval hW _ hcond _ hL _ _
 exact BH H enc W base args ds gs before hval hW hL (hcond _ rfl)
theorem said : Rows.JwriteRightUptoSaid :=
 OpenClaim.holds_of_cond 9 Try.f9 rfl rfl rfl rfl rfl rfl rfl ⟨rfl, rfl, rfl, rfl, rfl⟩ rfl rfl rfl rfl rfl (by kernel_rfl) Try.func9 (by kernel_rfl)
  (of_decide_eq_true (by kernel_rfl)) (by unfold Func.isWrapper; first | (rw [if_pos (by decide +kernel)]; kernel_rfl) | (rw [if_neg (by decide +kernel)]; exact ⟨rfl, rfl⟩))
  (fun os started H enc _ F => by rw [OpenClaim.pre_eq_preRow]; exact lifted os started H enc F)
end Go.Proofs.Ytllncocibkgjkaa.jwriteRight
