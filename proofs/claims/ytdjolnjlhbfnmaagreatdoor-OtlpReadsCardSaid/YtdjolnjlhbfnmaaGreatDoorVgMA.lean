/-
  A part of the proof.
-/
import Derived.Test.YtdjolnjlhbfnmaaGreatDoorVgK
import Derived.MapKept
import Derived.Maps.RangeRun
import Derived.DeepKeys
import Derived.DeepKeys4
import Derived.StringKeys
set_option linter.unusedSimpArgs false
set_option linter.unusedVariables false
namespace Go.VG
open Go

theorem wV {k k' : IntKind} (h : dZ k k' = true) : k = k' := by cases k <;> cases k' <;> first | rfl | cases h
theorem OB {a b : Sc} (h : xR a b = true) : a = b := by
 cases a <;> cases b <;> first
  | rfl
  | (cases h; done)
  | (simp only [xR] at h; rw [wV h])
theorem Eg : ∀ {a b : List Sc}, qv a b = true → a = b
 | [], [], _ => rfl
 | x :: xs, y :: ys, h => by
   simp only [qv, Bool.and_eq_true] at h
   rw [OB h.1, Eg h.2]
 | [], _ :: _, h => by cases h
 | _ :: _, [], h => by cases h
theorem Fx {a b : Bool} (h : tc a b = true) : a = b := by cases a <;> cases b <;> first | rfl | cases h
theorem VR_1 {st : St} {g : ay} {n : Nat} {k : Sc} {x : V} {v : Value} (hf : il k x = true) (h : VR st g x n v) : v = iX x ∧ ok1 x := by
 cases k <;> cases x <;> first
  | (cases hf; done)
  | (simp only [VR] at h; first | exact ⟨h, trivial⟩ | exact ⟨h.1, h.2⟩)
theorem Ad {st : St} {g : ay} {n : Nat} : ∀ {sh : List Sc} {cs : List V} {vs : List Value}, cA sh cs = true → aJ st g cs n vs → vs = cs.map iX ∧ ∀ c ∈ cs, ok1 c
 | _, [], vs, _, h => by simp only [aJ] at h; subst h; exact ⟨rfl, by simp⟩
 | [], _ :: _, _, hf, _ => by cases hf
 | k :: ks, c :: cs, vs, hf, h => by
   simp only [aJ] at h
   obtain ⟨u, us, rfl, h1, h2⟩ := h
   simp only [cA, Bool.and_eq_true] at hf
   obtain ⟨rfl, o1⟩ := VR_1 hf.1 h1
   obtain ⟨rfl, o2⟩ := Ad hf.2 h2
   refine ⟨rfl, fun d hd => ?_⟩
   rcases List.mem_cons.1 hd with rfl | hd
   . exact o1
   . exact o2 d hd
theorem KI {sh : List Sc} {x : V} (h : cA sh [x] = true) : ∃ k, sh = [k] ∧ il k x = true := by
 match sh, h with
 | [k], h => simp only [cA, Bool.and_true] at h; exact ⟨k, rfl, h⟩
 | [], h => cases h
 | _ :: _ :: _, h => simp [cA] at h
theorem rf {ag : Bool} {sh : List Sc} {x : V} (h : im ag sh x = true) : (∃ cs, x = .agg cs ∧ ag = true ∧ cA sh cs = true) ∨ (∃ k, ag = false ∧ sh = [k] ∧ il k x = true ∧ dh x = iX x ∧ (qe x ↔ ok1 x)) := by
 cases x with
 | agg cs =>
   left
   cases ag with
   | true => exact ⟨cs, rfl, rfl, h⟩
   | false => cases h
 | _ =>
   right
   cases ag with
   | true => cases h
   | false =>
     obtain ⟨k, h1, h2⟩ := KI (show cA sh [_] = true from h)
     exact ⟨k, rfl, h1, h2, rfl, Iff.rfl⟩
theorem sW {st : St} {g : ay} {n : Nat} {ag : Bool} {sh : List Sc} {x : V} {v : Value} (hf : im ag sh x = true) (h : VR st g x n v) : v = dh x ∧ qe x := by
 rcases rf hf with ⟨cs, rfl, _, h1⟩ | ⟨k, _, _, h1, h2, h3⟩
 . simp only [VR] at h
   obtain ⟨vs, rfl, h⟩ := h
   obtain ⟨h2, h3⟩ := Ad h1 h
   refine ⟨?_, h3⟩
   show Value.agg vs = .agg (cs.map iX).toArray
   rw [← h2]
 . obtain ⟨rfl, h5⟩ := VR_1 h1 h
   exact ⟨h2.symm, h3.2 h5⟩
theorem Fv {a b : List UInt8} (h : (⟨a.toArray⟩ : ByteArray) = ⟨b.toArray⟩) : a = b := by
 have := congrArg (fun x : ByteArray => x.data.toList) h
 simpa using this
theorem F3 {k : Sc} {x y : V} (hx : il k x = true) (hy : il k y = true) : iX x = iX y ↔ oq x y = true := by
 cases k <;> cases x <;> simp only [il, Bool.false_eq_true] at hx <;> cases y <;> simp only [il, Bool.false_eq_true] at hy
 . simp [iX, oq]
 . have hx := wV hx
   have hy := wV hy
   subst hx; subst hy
   simp [iX, oq]
 . simp only [iX, oq, beq_iff_eq]
   constructor
   . intro h; injection h with h; exact Fv h
   . intro h; rw [h]
theorem F4 : ∀ {sh : List Sc} {cs ds : List V}, cA sh cs = true → cA sh ds = true → (cs.map iX = ds.map iX ↔ rG cs ds = true)
 | _, [], [], _, _ => by simp [rG]
 | [], _ :: _, _, h, _ => by cases h
 | [], _, _ :: _, _, h => by cases h
 | _ :: _, [], _, h, _ => by cases h
 | _ :: _, _, [], _, h => by cases h
 | k :: ks, c :: cs, d :: ds, h1, h2 => by
   simp only [cA, Bool.and_eq_true] at h1 h2
   simp only [List.map_cons, List.cons.injEq, rG, Bool.and_eq_true, F3 h1.1 h2.1, F4 h1.2 h2.2]
theorem key_inj {ag : Bool} {sh : List Sc} {x y : V} (hx : im ag sh x = true) (hy : im ag sh y = true) : dh x = dh y ↔ iR x y = true := by
 rcases rf hx with ⟨cs, rfl, h0, h1⟩ | ⟨k, h0, e1, h1, h2, _⟩
 . rcases rf hy with ⟨ds, rfl, _, k1⟩ | ⟨_, k0, _⟩
   . simp only [dh, iR, Value.agg.injEq]
     rw [← F4 h1 k1]
     constructor
     . intro h; simpa using congrArg Array.toList h
     . intro h; rw [h]
   . rw [h0] at k0; cases k0
 . rcases rf hy with ⟨_, _, k0, _⟩ | ⟨k', _, e2, k1, k2, _⟩
   . rw [h0] at k0; cases k0
   . rw [e1] at e2
     cases e2
     rw [h2, k2, F3 h1 k1]
     cases x <;> first
      | (cases k <;> cases h1; done)
      | (cases y <;> first
       | (cases k <;> cases k1; done)
       | exact Iff.rfl)
theorem ph {ag : Bool} {sh : List Sc} : ∀ {es : List (V × Int)} {bs : List Nat} {l : List MapEntry}, eh ag sh es bs l → es.length = l.length ∧ bs.length = l.length
 | [], [], [], _ => ⟨rfl, rfl⟩
 | (x, q) :: es, s :: bs, e :: l, h => by
   simp only [eh] at h
   have := ph h.2
   simp [this.1, this.2]
 | [], [], _ :: _, h | [], _ :: _, [], h | [], _ :: _, _ :: _, h | _ :: _, [], [], h | _ :: _, [], _ :: _, h | _ :: _, _ :: _, [], h => by simp [eh] at h
abbrev sS (ag : Bool) (sh : List Sc) (x : V) (q : Int) (s : Nat) (e : MapEntry) : Prop :=
 im ag sh x = true ∧ qe x ∧ e.key = dh x ∧ e.val = .int .i64 q ∧ (IntKind.i64.min ≤ q ∧ q ≤ IntKind.i64.max) ∧ e.born = s
theorem lp {ag : Bool} {sh : List Sc} : ∀ {es : List (V × Int)} {bs : List Nat} {l : List MapEntry}, eh ag sh es bs l ↔ es.length = l.length ∧ bs.length = l.length ∧
   ∀ (j : Nat) (x : V) (q : Int) (s : Nat) (e : MapEntry), es[j]? = some (x, q) → bs[j]? = some s → l[j]? = some e → sS ag sh x q s e
 | [], [], [] => by simp [eh]
 | (x, q) :: es, s :: bs, e :: l => by
   simp only [eh, lp (es := es), List.length_cons]
   constructor
   . rintro ⟨h1, h2, h3, h4⟩
     refine ⟨by omega, by omega, fun j x' q' s' e' a b c => ?_⟩
     cases j with
     | zero => simp at a b c; obtain ⟨rfl, rfl⟩ := a; subst b; subst c; exact h1
     | succ j => exact h4 j x' q' s' e' (by simpa using a) (by simpa using b) (by simpa using c)
   . rintro ⟨h2, h3, h4⟩
     exact ⟨h4 0 x q s e rfl rfl rfl, by omega, by omega, fun j x' q' s' e' a b c => h4 (j + 1) x' q' s' e' (by simpa using a) (by simpa using b) (by simpa using c)⟩
 | [], [], _ :: _ | [], _ :: _, [] | [], _ :: _, _ :: _ | _ :: _, [], [] | _ :: _, [], _ :: _ | _ :: _, _ :: _, [] => by simp [eh]
theorem tB {ag : Bool} {sh : List Sc} {es : List (V × Int)} {bs : List Nat} {l : List MapEntry} (h : eh ag sh es bs l) {j : Nat} {x : V} {q : Int} (hj : es[j]? = some (x, q)) :
   ∃ s e, bs[j]? = some s ∧ l[j]? = some e ∧ sS ag sh x q s e := by
 obtain ⟨h1, h2, h3⟩ := lp.1 h
 obtain ⟨hlt, _⟩ := List.getElem?_eq_some_iff.1 hj
 have a : bs[j]? = some (bs[j]'(by omega)) := List.getElem?_eq_getElem (by omega)
 have b : l[j]? = some (l[j]'(by omega)) := List.getElem?_eq_getElem (by omega)
 exact ⟨_, _, a, b, h3 j x q _ _ hj a b⟩
theorem r8 {ag : Bool} {sh : List Sc} {es : List (V × Int)} {bs : List Nat} {l : List MapEntry} (h : eh ag sh es bs l) {j : Nat} {e : MapEntry} (hj : l[j]? = some e) :
   ∃ x q s, es[j]? = some (x, q) ∧ bs[j]? = some s ∧ sS ag sh x q s e := by
 obtain ⟨h1, h2, h3⟩ := lp.1 h
 obtain ⟨hlt, _⟩ := List.getElem?_eq_some_iff.1 hj
 have a : bs[j]? = some (bs[j]'(by omega)) := List.getElem?_eq_getElem (by omega)
 have b : es[j]? = some (es[j]'(by omega)) := List.getElem?_eq_getElem (by omega)
 exact ⟨_, _, _, b, a, h3 j _ _ _ _ b a hj⟩
theorem rk : ∀ {es : List (V × Int)} {x : V} {j : Nat} {q : Int}, cB es x = some (j, q) → ∃ y, es[j]? = some (y, q) ∧ iR y x = true
 | [], _, _, _, h => by simp [cB] at h
 | (y, q') :: es, x, j, q, h => by
   simp only [cB] at h
   cases hk : iR y x with
   | true => rw [hk] at h; simp at h; obtain ⟨rfl, rfl⟩ := h; exact ⟨y, rfl, hk⟩
   | false =>
     rw [hk] at h
     simp only [cond_false] at h
     split at h
     . rename_i j' q2 hf
       simp at h
       obtain ⟨rfl, rfl⟩ := h
       obtain ⟨z, h1, h2⟩ := rk hf
       exact ⟨z, by simpa using h1, h2⟩
     . cases h
theorem tI : ∀ {es : List (V × Int)} {x : V}, cB es x = none → ∀ e ∈ es, iR e.1 x = false
 | [], _, _ => by simp
 | (y, q') :: es, x, h => by
   simp only [cB] at h
   cases hk : iR y x with
   | true => rw [hk] at h; simp at h
   | false =>
     rw [hk] at h
     simp only [cond_false] at h
     split at h
     . cases h
     . rename_i hf
       intro e he
       rcases List.mem_cons.1 he with rfl | he
       . exact hk
       . exact tI hf e he
theorem E8 : ∀ (es : List (V × Int)) (j : Nat) (q : Int) (i : Nat), (iw es j q)[i]? = if i = j then (es[i]?).map (fun e => (e.1, q)) else es[i]?
 | [], j, q, i => by cases j <;> simp [iw]
 | (y, q0) :: es, 0, q, i => by cases i <;> simp [iw]
 | e :: es, j + 1, q, i => by
   cases i with
   | zero => simp [iw]
   | succ i => simp [iw, E8 es j q i]
theorem xU : ∀ (es : List (V × Int)) (j : Nat) (q : Int), (iw es j q).length = es.length
 | [], j, q => by cases j <;> rfl
 | (y, q0) :: es, 0, q => rfl
 | e :: es, j + 1, q => by simp [iw, xU es j q]
theorem xT : ∀ (es : List (V × Int)) (j : Nat) (q : Int), ((iw es j q).map fun e => dh e.1) = es.map fun e => dh e.1
 | [], j, q => by cases j <;> rfl
 | (y, q0) :: es, 0, q => rfl
 | e :: es, j + 1, q => by simp [iw, xT es j q]
theorem Bi {ag : Bool} {sh : List Sc} {es : List (V × Int)} {bs : List Nat} {l : List MapEntry} (h : eh ag sh es bs l) (j : Nat) {q : Int} (hq : IntKind.i64.min ≤ q ∧ q ≤ IntKind.i64.max) {f : MapEntry → MapEntry}
   (hf : ∀ e, l[j]? = some e → (f e).key = e.key ∧ (f e).val = .int .i64 q ∧ (f e).born = e.born) : eh ag sh (iw es j q) bs (l.modify j f) := by
 obtain ⟨h1, h2, h3⟩ := lp.1 h
 refine lp.2 ⟨by rw [xU, List.length_modify]; exact h1, by rw [List.length_modify]; exact h2, fun i x q' s e a b c => ?_⟩
 rw [E8] at a
 rw [List.getElem?_modify] at c
 by_cases hij : i = j
 . subst hij
   rw [if_pos rfl] at a
   cases he : es[i]? with
   | none => rw [he] at a; cases a
   | some p =>
     cases hl : l[i]? with
     | none => rw [hl] at c; cases c
     | some e0 =>
       rw [he] at a; rw [hl] at c
       simp at a c
       obtain ⟨rfl, rfl⟩ := a
       subst c
       obtain ⟨r1, r2, r3, r4, r5, r6⟩ := h3 i _ _ _ _ he b hl
       obtain ⟨f1, f2, f3⟩ := hf e0 hl
       exact ⟨r1, r2, f1.trans r3, f2, hq, f3.trans r6⟩
 . rw [if_neg hij] at a
   have hji : ¬ j = i := fun q => hij q.symm
   simp [hji] at c
   exact h3 i x q' s e a b c
theorem Bh {ag : Bool} {sh : List Sc} {es : List (V × Int)} {bs : List Nat} {l : List MapEntry} (h : eh ag sh es bs l) {x : V} {q : Int} {s : Nat} {e : MapEntry} (he : sS ag sh x q s e) :
   eh ag sh (es ++ [(x, q)]) (bs ++ [s]) (l ++ [e]) := by
 obtain ⟨h1, h2, h3⟩ := lp.1 h
 refine lp.2 ⟨by simp [h1], by simp [h2], fun i x' q' s' e' a b c => ?_⟩
 by_cases hi : i < l.length
 . rw [List.getElem?_append_left (by omega)] at a b c
   exact h3 i _ _ _ _ a b c
 . rw [List.getElem?_append_right (by omega)] at a b c
   have e1 : i - es.length = i - l.length := by omega
   have e2 : i - bs.length = i - l.length := by omega
   rw [e1] at a; rw [e2] at b
   cases hk : i - l.length with
   | zero => rw [hk] at a b c; simp at a b c; obtain ⟨rfl, rfl⟩ := a; subst b; subst c; exact he
   | succ m => rw [hk] at a; simp at a
theorem Gb {ag : Bool} {sh : List Sc} {es : List (V × Int)} {bs : List Nat} {l : List MapEntry} (h : eh ag sh es bs l) (j : Nat) : eh ag sh (es.eraseIdx j) (bs.eraseIdx j) (l.eraseIdx j) := by
 obtain ⟨h1, h2, h3⟩ := lp.1 h
 refine lp.2 ⟨by simp only [List.length_eraseIdx]; rw [h1], by simp only [List.length_eraseIdx]; rw [h2], fun i x q s e a b c => ?_⟩
 rw [List.getElem?_eraseIdx] at a b c
 split at a
 . rename_i hij
   rw [if_pos hij] at b c
   exact h3 _ _ _ _ _ a b c
 . rename_i hij
   rw [if_neg hij] at b c
   exact h3 _ _ _ _ _ a b c
theorem EC {bs : List Nat} {ck : Nat} (h : oT bs ck) : oT (bs ++ [ck]) (ck + 1) := by
 refine ⟨List.nodup_append.2 ⟨h.1, by simp, fun a ha b hb e => ?_⟩, fun s hs => ?_⟩
 . simp at hb; subst hb; have := h.2 a ha; omega
 . rcases List.mem_append.1 hs with hs | hs
   . have := h.2 s hs; omega
   . simp at hs; omega
theorem D7 {es : List (V × Int)} {x : V} {q : Int} (h : (es.map fun e => dh e.1).Nodup) (hx : ∀ e ∈ es, dh e.1 ≠ dh x) : ((es ++ [(x, q)]).map fun e => dh e.1).Nodup := by
 rw [List.map_append]
 refine List.nodup_append.2 ⟨h, by simp, fun a ha b hb e => ?_⟩
 simp at hb
 obtain ⟨p, hp, rfl⟩ := List.mem_map.1 ha
 exact hx p hp (e.trans hb)
section
variable {P : Program} {k : TypeId} {ag : Bool} {sh : List Sc} {es : List (V × Int)} {bs : List Nat} {arr : Array MapEntry}
theorem uy (K : qJ P k sh) (ha : ag = nK P k) (h : eh ag sh es bs arr.toList) (hn : (es.map fun e => dh e.1).Nodup) {x : V} (fx : im ag sh x = true) (ox : qe x) (w : World) :
   (cB es x = none ∧ (Instr.findKey k (dh x) arr.toList).run P w = .ok none w ∧ ∀ e ∈ es, dh e.1 ≠ dh x) ∨
   (∃ j q e s, cB es x = some (j, q) ∧ (Instr.findKey k (dh x) arr.toList).run P w = .ok (some (j, .int .i64 q)) w ∧ arr[j]? = some e ∧ bs[j]? = some s ∧ e.key = dh x ∧ e.val = .int .i64 q ∧ e.born = s ∧
    (IntKind.i64.min ≤ q ∧ q ≤ IntKind.i64.max)) := by
 subst ha
 obtain ⟨lx, hx⟩ := K.2 x fx ox
 have hall : ∀ e ∈ arr.toList, ∃ l, keyOf P k e.key = some l := fun e he => by
  obtain ⟨j, hj⟩ := List.getElem?_of_mem he
  obtain ⟨y, q, s, _, _, r1, r2, r3, _⟩ := r8 h hj
  rw [r3]
  exact K.2 y r1 r2
 rcases K.1.find w hx arr.toList hall with ⟨h1, h2⟩ | ⟨j, e, h1, h2, h3⟩
 . left
   have hno : ∀ e ∈ es, dh e.1 ≠ dh x := fun p hp q => by
    obtain ⟨j, hj⟩ := List.getElem?_of_mem hp
    obtain ⟨s, e, _, c, _, _, r3, _⟩ := tB h (x := p.1) (q := p.2) hj
    exact h2 e (List.mem_of_getElem? c) (r3.trans q)
   refine ⟨?_, h1, hno⟩
   cases hf : cB es x with
   | none => rfl
   | some p =>
     obtain ⟨y, hy, hk⟩ := rk (show cB es x = some (p.1, p.2) from hf)
     obtain ⟨_, _, _, _, r1, _⟩ := tB h hy
     exact absurd ((key_inj r1 fx).2 hk) (hno _ (List.mem_of_getElem? hy))
 . right
   obtain ⟨y, q, s, a, b, r1, r2, r3, r4, r5, r6⟩ := r8 h h2
   have hyx : dh y = dh x := r3.symm.trans h3
   have hf : cB es x = some (j, q) := by
    cases hf : cB es x with
    | none =>
      have := tI hf _ (List.mem_of_getElem? a)
      rw [(key_inj r1 fx).1 hyx] at this
      cases this
    | some p =>
      obtain ⟨z, hz, hk⟩ := rk (show cB es x = some (p.1, p.2) from hf)
      obtain ⟨_, _, _, _, z1, _⟩ := tB h hz
      have hzx := (key_inj z1 fx).2 hk
      obtain ⟨l1, e1⟩ := List.getElem?_eq_some_iff.1 a
      obtain ⟨l2, e2⟩ := List.getElem?_eq_some_iff.1 hz
      have hij : p.1 = j := by
       refine (List.getElem_inj (h₀ := by simpa using l2) (h₁ := by simpa using l1) hn).1 ?_
       simp only [List.getElem_map, e1, e2]
       exact hzx.trans hyx.symm
      have : p.2 = q := by
       rw [hij, a] at hz
       injection hz with e3
       injection e3 with _ e4
       exact e4.symm
      rw [← hij, ← this]
   exact ⟨j, q, e, s, hf, by rw [h1, r4], by simpa using h2, b, h3, r4, r6, r5⟩
end
section
variable {C : Ctx} {E : Env} {st : St} {g : ay} {s : AS} {a : Act} {w : World} {o : Oper} {e : Ef}
structure A8 (C : Ctx) (E : Env) (g : ay) (s : AS) (w : World) (t : TypeId) (mv : Value) (i : Nat) (ag : Bool) (sh : List Sc) (es : List (V × Int)) (bs : List Nat) (ck : Nat) (k e : TypeId) (b : Nat) (arr : Array MapEntry) : Prop where
 und : C.P.underlying t = some (.map k e)
 zero : ∀ w : World, (zeroValue e).run C.P w = .ok (.int .i64 0) w
 key : qJ C.P k sh
 agg : ag = nK C.P k
 lt : i < s.sg.length
 sg : s.sg[i]? = some (.map ag sh es bs ck)
 blk : (g i).blk = some b
 own : E.G b
 mv : mv = .map (some b)
 hp : w.heap[b]? = some (.map arr ck)
 ent : eh ag sh es bs arr.toList
 stamp : oT bs ck
 nodup : (es.map fun e => dh e.1).Nodup
theorem MT (G : Good C) {t : TypeId} {ag : Bool} {sh : List Sc} (h : u7 C t = some (ag, sh)) :
   ∃ k e, C.P.underlying t = some (.map k e) ∧ (∀ w : World, (zeroValue e).run C.P w = .ok (.int .i64 0) w) ∧ qJ C.P k sh ∧ ag = nK C.P k := by
 unfold u7 at h
 split at h
 . rename_i k e hk
   have h3 := (G.ti t).of (by rw [hk]; simp)
   rw [hk] at h3
   split at h
   . cases h
   . cases h
   . rename_i he hno hne
     split at h
     . rename_i hz
       cases h
       refine ⟨k, e, h3.1, fun w => ?_, h3.2.2 (fun q => hne q), ?_⟩
       . obtain ⟨z, h1, h2⟩ := uB (P := C.P) (i := C.ti e) w (G.ti e) (by rw [he]; simp)
         have := h2 (fun _ _ => none) (fun _ => ⟨none, none, 0, 0, 0⟩) 0
         rw [hz] at this
         simp only [VR] at this
         rw [h1, this.1]
         rfl
       . have hk2 := ((G.ti k).of hno).1
         unfold nK
         cases hkk : (C.ti k).k with
         | bool | int _ | string | slice _ | ptr _ | map _ _ => rw [hkk] at hk2; simp only [TK.ok] at hk2; rw [hk2]; rfl
         | array _ _ => rw [hkk] at hk2; simp only [TK.ok] at hk2; rw [hk2]; rfl
         | struct _ => rw [hkk] at hk2; simp only [TK.ok] at hk2; obtain ⟨_, hk2, _⟩ := hk2; rw [hk2]; rfl
         | iface => rw [hkk] at hk2; simp only [TK.ok] at hk2; obtain ⟨_, hk2⟩ := hk2; rw [hk2]; rfl
         | func => rw [hkk] at hk2; simp only [TK.ok] at hk2; obtain ⟨_, _, _, hk2⟩ := hk2; rw [hk2]; rfl
         | other => exact absurd hkk hno
     . cases h
   . cases h
 . cases h
theorem qg {p : Ef → Prop} {t : TypeId} {m : V} {mv : Value} {F : Nat → Bool → List Sc → List (V × Int) → List Nat → Nat → Tr Ef} (R : Rel E st g s a w) (G : Good C) (hm : VR st g m s.sg.length mv)
   (h : ∀ i ag sh es bs ck k e b arr, m = .map i → A8 C E g s w t mv i ag sh es bs ck k e b arr → aa p (F i ag sh es bs ck)) : aa p (eu C s t m F) := by
 unfold eu
 refine aa.opt fun q hq => ?_
 obtain ⟨k, e, h1, h2, h3, h4⟩ := MT G hq
 split
 . rename_i i
   simp only [VR] at hm
   obtain ⟨hil, b, hb, rfl⟩ := hm
   split
   . rename_i ag sh es bs ck hs
     obtain ⟨hs1, _⟩ := dY hs (by simp)
     obtain ⟨b', arr, q1, q2, q3, q4, q5, q6⟩ := R.wr.ob i _ hs1
     rw [hb] at q1; cases q1
     refine aa.when fun hw => ?_
     simp only [Bool.and_eq_true] at hw
     have e1 := Fx hw.1
     have e2 := Eg hw.2
     exact h i ag sh es bs ck k e b arr rfl ⟨h1, h2, by rw [e2]; exact h3, e1.trans h4, hil, hs1, hb, q2, rfl, q3, q4, q5, q6⟩
   . exact aa.fail
 . exact aa.fail
theorem F2 (g : ay) (i : Nat) : ba g i (g i) = g := by funext j; by_cases e : j = i <;> simp [ba, e]
theorem aI.oC {t k e0 : TypeId} {mv : Value} {i ck ck' : Nat} {ag : Bool} {sh : List Sc} {es es' : List (V × Int)} {bs bs' : List Nat} {b : Nat} {arr arr' : Array MapEntry} {x : V} {rd : List Nat} (R : Rel E st g s a w)
   (M : A8 C E g s w t mv i ag sh es bs ck k e0 b arr) (v : Value)
   (hr : (execOp a.eval o).run C.P w = .ok (.value v) (bU w b (.map arr' ck')) ∨ ((execOp a.eval o).run C.P w = .ok .skip (bU w b (.map arr' ck')) ∧ v = undef))
   (h1 : eh ag sh es' bs' arr'.toList) (h2 : oT bs' ck') (h3 : (es'.map fun e => dh e.1).Nodup) (hv : VR st g x s.sg.length v) :
   aI C E st g s a w o ⟨x, [], [(i, .map ag sh es' bs' ck')], [], rd⟩ := by
 refine aI.fR R M.lt v (bU w b (.map arr' ck')) (g i) hr (cP.bU M.own _ (fun b'' => by rw [M.blk]; simp [eq_comm]) (fun k v hv => ?_)) (.inl rfl) (fun b hb => .inl hb) ?_ (by rw [F2]; exact hv)
 . have := R.wr.stw _ _ _ hv
   simp only [World.cell?, M.hp] at this
   cases this
 . exact ⟨b, arr', M.blk, M.own, jo M.hp, h1, h2, h3⟩
theorem oh {q : Int} (h : IntKind.i64.min ≤ q ∧ q ≤ IntKind.i64.max) {n : Nat} : VR st g (.int .i64 q) n (.int .i64 q) := eB h
theorem D0 {n m : Nat} (h : n ≤ 9223372036854775807) : VR st g (.int .i64 (n : Int)) m (goInt n) := by
 refine eB ⟨?_, ?_⟩
 . simp [IntKind.min, IntKind.signed, IntKind.bits]
 . rw [IntKind.max_i64]; omega
theorem vv : IntKind.i64.min ≤ (0 : Int) ∧ (0 : Int) ≤ IntKind.i64.max := by decide
theorem Og {t : TypeId} (R : Rel E st g s a w) (G : Good C) (ho : o.op = .makeMap t none) : cf C E st g s a w o (mu C s t) := by
 unfold mu
 refine aa.opt fun q hq => ?_
 rw [de]
 refine aa.ret (aI.new R (.map (some w.heap.size)) w (aU.refl w) ⟨some w.heap.size, none, 0, 0, 0⟩ (.map #[] 0) ?_ (by simp) ?_ ?_)
 . simp [execOp, ho, Instr.makeMap, newObj, Sem.run, Result.andThen]
 . exact ⟨w.heap.size, #[], rfl, R.wr.gnew _ R.wr.size, heap_alloc_new, by simp [eh], ⟨List.nodup_nil, by simp⟩, List.nodup_nil⟩
 . simp only [VR, dg]
   exact ⟨by omega, w.heap.size, rfl, rfl⟩
theorem Oc {t : TypeId} {m x : Operand} {ok : Bool} (R : Rel E st g s a w) (hg : aW C.gl st) (G : Good C) (ho : o.op = .lookup t m x ok) : cf C E st g s a w o (j7 C s t m x ok) := by
 unfold j7
 refine qg R G (aZ (C := C) R hg m) fun i ag sh es bs ck k e b arr he M => ?_
 rw [force_eq]
 refine aa.when fun fx => ?_
 obtain ⟨hx, ox⟩ := sW fx (aZ (C := C) R hg x)
 obtain ⟨lx, hlx⟩ := M.key.2 _ (by rw [← M.agg]; exact fx) ox
 have hck := M.key.1.check w arr.isEmpty hlx
 have hcommon : ∀ r : Option (Nat × Value), (Instr.findKey k (dh (s.ev C x)) arr.toList).run C.P w = .ok r w → (Instr.lookup t (a.eval m) (a.eval x) ok).run C.P w =
    (match r with
     | some (_, v) => .ok (if ok then .tuple #[v, .bool true] else v) w
     | none => .ok (if ok then .tuple #[.int .i64 0, .bool false] else .int .i64 0) w) := fun r hr => by
  rw [M.mv, hx]
  unfold Instr.lookup
  simp only [Sem.run_bind, run_underlying M.und, Result.andThen_ok, Sem.run_pure, MapKept.run_getObj_map M.hp, hck, hr]
  cases r with
  | none => simp [M.zero]
  | some p => simp
 rcases uy M.key M.agg M.ent M.nodup fx ox w with ⟨f1, f2, _⟩ | ⟨j, q, e1, s1, f1, f2, _, _, _, _, _, f8⟩
 . have hL := hcommon _ f2
   split
   . refine aa.dv (fun y hy => by rw [f1] at hy; cases hy) (fun _ => aa.ret (aI.pure R _ w (by simp only [execOp, ho, Sem.run_bind, hL, Result.andThen_ok]; rfl) (aU.refl w) ?_))
     simp only [VR]
     exact ⟨_, rfl, cg (oh vv) (cg dB cY)⟩
   . refine aa.ret (aI.pure R _ w (by simp only [execOp, ho, Sem.run_bind, hL, Result.andThen_ok]; rfl) (aU.refl w) ?_)
     unfold getM
     rw [f1]
     exact oh vv
 . have hL := hcommon _ f2
   split
   . refine aa.dv (fun y hy => ?_) (fun hy => by rw [f1] at hy; cases hy)
     rw [f1] at hy; cases hy
     refine aa.ret (aI.pure R _ w (by simp only [execOp, ho, Sem.run_bind, hL, Result.andThen_ok]; rfl) (aU.refl w) ?_)
     simp only [VR]
     exact ⟨_, rfl, cg (oh f8) (cg dB cY)⟩
   . refine aa.ret (aI.pure R _ w (by simp only [execOp, ho, Sem.run_bind, hL, Result.andThen_ok]; rfl) (aU.refl w) ?_)
     unfold getM
     rw [f1]
     exact oh f8
theorem OA {arr : Array MapEntry} {j : Nat} {e : MapEntry} {kv : Value} (h : arr[j]? = some e) (hk : e.key = kv) : arr.modify j (fun e => { e with key := kv }) = arr := by
 apply Array.ext'
 rw [Array.toList_modify]
 apply List.ext_getElem?
 intro i
 rw [List.getElem?_modify]
 by_cases hi : j = i
 . subst hi
   have h' : arr.toList[j]? = some e := by simpa using h
   rw [h']
   subst hk
   simp
 . simp [hi]
theorem Oj {t : TypeId} {m x y : Operand} (R : Rel E st g s a w) (hg : aW C.gl st) (G : Good C) (ho : o.op = .mapUpdate t m x y) : cf C E st g s a w o (my C s t m x y) := by
 unfold my
 refine qg R G (aZ (C := C) R hg m) fun i ag sh es bs ck k e b arr he M => ?_
 rw [force_eq]
 refine aa.when fun fx => ?_
 obtain ⟨hx, ox⟩ := sW fx (aZ (C := C) R hg x)
 obtain ⟨lx, hlx⟩ := M.key.2 _ (by rw [← M.agg]; exact fx) ox
 have hck := M.key.1.check w false hlx
 have hst := M.key.1.stays w hlx
 have hy := aZ (C := C) R hg y
 split
 . rename_i q hq
   rw [hq] at hy
   simp only [VR] at hy
   rcases uy M.key M.agg M.ent M.nodup fx ox w with ⟨f1, f2, f3⟩ | ⟨j, q0, e1, s1, f1, f2, f3, f4, f5, f6, f7, f8⟩
   . refine aa.dv (fun y hy => by rw [f1] at hy; cases hy) (fun _ => aa.ret ?_)
     refine aI.oC R M undef (arr' := arr.push ⟨dh (s.ev C x), .int .i64 q, ck⟩) (.inr ⟨?_, rfl⟩) ?_ (EC M.stamp) (D7 M.nodup f3) (by simp [VR])
     . simp [execOp, ho, Instr.mapUpdate, run_underlying M.und, M.mv, hx, hy.1, MapKept.run_getObj_map M.hp, hck, f2, MapKept.run_setObj_map _ M.hp, Result.andThen, bU]
     . rw [Array.toList_push]
       exact Bh M.ent ⟨fx, ox, rfl, rfl, hy.2, rfl⟩
   . refine aa.dv (fun y hy => ?_) (fun hy => by rw [f1] at hy; cases hy)
     rw [f1] at hy; cases hy
     refine aa.ret ?_
     refine aI.oC R M undef (arr' := arr.modify j fun e => { e with key := dh (s.ev C x), val := .int .i64 q }) (.inr ⟨?_, rfl⟩) ?_ M.stamp (by rw [xT]; exact M.nodup) (by simp [VR])
     . simp [execOp, ho, Instr.mapUpdate, run_underlying M.und, M.mv, hx, hy.1, MapKept.run_getObj_map M.hp, hck, f2, f3, f5, hst, MapKept.run_setObj_map _ M.hp, Result.andThen, bU]
     . rw [Array.toList_modify]
       refine Bi M.ent j hy.2 fun e' he' => ?_
       have : arr.toList[j]? = some e1 := by simpa using f3
       rw [this] at he'; cases he'
       exact ⟨f5.symm, rfl, rfl⟩
 . exact aa.fail
theorem Oi {t : TypeId} {m x : Operand} (R : Rel E st g s a w) (hg : aW C.gl st) (G : Good C) (ho : o.op = .mapEntry t m x) : cf C E st g s a w o (kA C s t m x) := by
 unfold kA
 refine qg R G (aZ (C := C) R hg m) fun i ag sh es bs ck k e b arr he M => ?_
 rw [force_eq]
 refine aa.when fun fx => aa.aN fun hb => ?_
 obtain ⟨hx, ox⟩ := sW fx (aZ (C := C) R hg x)
 obtain ⟨lx, hlx⟩ := M.key.2 _ (by rw [← M.agg]; exact fx) ox
 have hck := M.key.1.check w false hlx
 have hst := M.key.1.stays w hlx
 rcases uy M.key M.agg M.ent M.nodup fx ox w with ⟨f1, f2, f3⟩ | ⟨j, q0, e1, s1, f1, f2, f3, f4, f5, f6, f7, f8⟩
 . refine aa.dv (fun y hy => by rw [f1] at hy; cases hy) (fun _ => aa.ret ?_)
   refine aI.oC R M (.tuple #[.int .i64 0, goInt ck]) (arr' := arr.push ⟨dh (s.ev C x), .int .i64 0, ck⟩) (.inl ?_) ?_ (EC M.stamp) (D7 M.nodup f3) ?_
   . simp [execOp, ho, Instr.mapEntry, run_underlying M.und, M.mv, hx, M.zero, MapKept.run_getObj_map M.hp, hck, f2, MapKept.run_setObj_map _ M.hp, Result.andThen, bU]
   . rw [Array.toList_push]
     exact Bh M.ent ⟨fx, ox, rfl, rfl, vv, rfl⟩
   . simp only [VR]
     exact ⟨_, rfl, cg (oh vv) (cg (D0 hb) cY)⟩
 . refine aa.dv (fun y hy => ?_) (fun hy => by rw [f1] at hy; cases hy)
   rw [f1] at hy; cases hy
   refine aa.ret ?_
   have hgd : bs.getD j 0 = e1.born := by rw [List.getD_eq_getElem?_getD, f4, f7]; rfl
   refine aI.oC R M (.tuple #[.int .i64 q0, goInt e1.born]) (arr' := arr) (.inl ?_) M.ent M.stamp M.nodup ?_
   . simp [execOp, ho, Instr.mapEntry, run_underlying M.und, M.mv, hx, MapKept.run_getObj_map M.hp, hck, f2, f3, f5, hst, OA f3 f5, MapKept.run_setObj_map _ M.hp, Result.andThen, bU]
   . simp only [VR]
     rw [hgd]
     have := M.stamp.2 s1 (List.mem_of_getElem? f4)
     exact ⟨_, rfl, cg (oh f8) (cg (D0 (by rw [f7]; omega)) cY)⟩
theorem O3 {t : TypeId} {m b0 y : Operand} (R : Rel E st g s a w) (hg : aW C.gl st) (G : Good C) (ho : o.op = .entryStore t m b0 y) : cf C E st g s a w o (ml C s t m b0 y) := by
 unfold ml
 refine qg R G (aZ (C := C) R hg m) fun i ag sh es bs ck k e b arr he M => ?_
 have h1 := aZ (C := C) R hg b0
 have h2 := aZ (C := C) R hg y
 split
 . rename_i z q e1 e2
   rw [e1] at h1
   rw [e2] at h2
   simp only [VR] at h1 h2
   refine aa.ex fun j => aa.aN fun hj => aa.ret ?_
   obtain ⟨hl1, hl2⟩ := ph M.ent
   obtain ⟨hjl, hjb⟩ := List.getElem?_eq_some_iff.1 hj.2
   have hz : z = ((z.toNat : Nat) : Int) := by omega
   obtain ⟨en, hen⟩ : ∃ en, arr.toList[j]? = some en := ⟨_, List.getElem?_eq_getElem (by omega)⟩
   obtain ⟨x', q', s', a1, a2, a3⟩ := r8 M.ent hen
   have hborn : en.born = z.toNat := by
    rw [hj.2] at a2
    cases a2
    exact a3.2.2.2.2.2
   have hbs : arr.toList.map (·.born) = bs := by
    apply List.ext_getElem?
    intro i
    rw [List.getElem?_map]
    cases hi : arr.toList[i]? with
    | none =>
      have : bs[i]? = none := by rw [List.getElem?_eq_none_iff] at hi ⊢; omega
      rw [this]; rfl
    | some e' =>
      obtain ⟨_, _, _, _, c2, c3⟩ := r8 M.ent hi
      rw [c2]
      simp [c3.2.2.2.2.2]
   have hidx : arr.findIdx? (fun e => ((e.born : Nat) : Int) == z) = some j := by
    rw [WideElems.findIdx_arr, hz, ← hborn]
    exact WideElems.findIdx_born (by rw [hbs]; exact M.stamp.1) hen
   refine aI.oC R M undef (arr' := arr.modify j fun e => { e with val := .int .i64 q }) (.inr ⟨?_, rfl⟩) ?_ M.stamp (by rw [xT]; exact M.nodup) (by simp [VR])
   . simp [execOp, ho, Instr.entryStore, M.mv, h1.1, h2.1, asInt, asIntOf, hidx, MapKept.run_getObj_map M.hp, MapKept.run_setObj_map _ M.hp, Result.andThen, bU]
   . rw [Array.toList_modify]
     exact Bi M.ent j h2.2 fun e' _ => ⟨rfl, rfl, rfl⟩
 . exact aa.fail
theorem Gd (arr : Array MapEntry) (j : Nat) : (arr.eraseIdxIfInBounds j).toList = arr.toList.eraseIdx j := by
 unfold Array.eraseIdxIfInBounds
 split
 . simp
 . rename_i h
   rw [List.eraseIdx_of_length_le (by simpa using h)]
theorem FU {t : TypeId} {m x : V} {mv xv : Value} {ats : Array TypeId} {ty : TypeId} (R : Rel E st g s a w) (G : Good C) (hm : VR st g m s.sg.length mv) (hxv : VR st g x s.sg.length xv) (hts : ats[0]? = some t)
   (hr : ∀ w', (Builtin.delete_ ats ty #[mv, xv]).run C.P w = .ok (.tuple #[]) w' → (execOp a.eval o).run C.P w = .ok (.value (.tuple #[])) w') : cf C E st g s a w o (mj C s t m x) := by
 unfold mj
 refine qg R G hm fun i ag sh es bs ck k e b arr he M => ?_
 rw [force_eq]
 refine aa.when fun fx => ?_
 obtain ⟨hx, ox⟩ := sW fx hxv
 obtain ⟨lx, hlx⟩ := M.key.2 _ (by rw [← M.agg]; exact fx) ox
 have hck := M.key.1.check w arr.isEmpty hlx
 rcases uy M.key M.agg M.ent M.nodup fx ox w with ⟨f1, f2, f3⟩ | ⟨j, q0, e1, s1, f1, f2, f3, f4, f5, f6, f7, f8⟩
 . refine aa.dv (fun y hy => by rw [f1] at hy; cases hy) (fun _ => aa.ret ?_)
   refine aI.oC R M (.tuple #[]) (arr' := arr) (.inl (hr _ ?_)) M.ent M.stamp M.nodup (by simp [VR, aJ])
   simp [Builtin.delete_, hts, run_underlying M.und, M.mv, hx, MapKept.run_getObj_map M.hp, hck, f2, MapKept.run_setObj_map _ M.hp, Result.andThen, bU]
 . refine aa.dv (fun y hy => ?_) (fun hy => by rw [f1] at hy; cases hy)
   rw [f1] at hy; cases hy
   refine aa.ret ?_
   refine aI.oC R M (.tuple #[]) (arr' := arr.eraseIdxIfInBounds j) (.inl (hr _ ?_)) ?_ ?_ ?_ (by simp [VR, aJ])
   . simp [Builtin.delete_, hts, run_underlying M.und, M.mv, hx, MapKept.run_getObj_map M.hp, hck, f2, MapKept.run_setObj_map _ M.hp, Result.andThen, bU]
   . rw [Gd]
     exact Gb M.ent j
   . exact ⟨M.stamp.1.sublist (List.eraseIdx_sublist _ _), fun s hs => M.stamp.2 s ((List.eraseIdx_sublist _ _).subset hs)⟩
   . exact M.nodup.sublist ((List.eraseIdx_sublist _ _).map _)
theorem Mr (bs : List Nat) : kN bs #[] = List.range bs.length := by
 unfold kN
 rw [List.filter_eq_self]
 intro j _
 simp
theorem Oa {t : TypeId} {x : Operand} (R : Rel E st g s a w) (hg : aW C.gl st) (G : Good C) (ho : o.op = .range t x) : cf C E st g s a w o (mr C s t (s.ev C x)) := by
 unfold mr
 refine qg R G (aZ (C := C) R hg x) fun i ag sh es bs ck k e b arr he M => ?_
 rw [de]
 refine aa.ret (aI.new R (.pointer (some ⟨w.heap.size, 0, none⟩)) w (aU.refl w) ⟨some w.heap.size, none, 0, 0, 0⟩ (.mapIter (some b) ck #[] ck) ?_ (by simp) ?_ ?_)
 . simp [execOp, ho, Instr.range, run_underlying M.und, M.mv, MapKept.run_getObj_map M.hp, Result.andThen, newObj, Sem.run]
 . refine ⟨w.heap.size, b, #[], rfl, R.wr.gnew _ R.wr.size, heap_alloc_new, ?_, (Mr bs).symm, .inl ⟨rfl, Nat.le_refl _⟩⟩
   simp only [VR]
   refine ⟨by have := M.lt; omega, b, ?_, rfl⟩
   rw [cp (Nat.ne_of_lt M.lt)]
   exact M.blk
 . simp only [VR, dg]
   exact ⟨by omega, w.heap.size, rfl, rfl⟩
theorem cP.after {st' : St} {w1 w2 : World} {B : Nat → Prop} (c : cP E st st' w w1 B) (h : aU w1 w2) : cP E st st' w w2 B where
 os := h.os.trans c.os
 tape := h.tape.trans c.tape
 output := h.output.trans c.output
 size := by rw [h.heap]; exact c.size
 bm := fun b hb hB => by rw [h.heap]; exact c.bm b hb hB
 own := c.own
 mono := c.mono
 newst := fun b o v hv => by rw [nO (w := w1) (w' := w2) (by rw [h.heap])]; exact c.newst b o v hv
 oldst := fun b o v hB hv => by rw [nO (w := w1) (w' := w2) (by rw [h.heap])]; exact c.oldst b o v hB hv
theorem Bj {ag : Bool} {sh : List Sc} {es : List (V × Int)} {bs : List Nat} {l : List MapEntry} (h : eh ag sh es bs l) : l.map (·.born) = bs := by
 obtain ⟨hl1, hl2⟩ := ph h
 apply List.ext_getElem?
 intro i
 rw [List.getElem?_map]
 cases hi : l[i]? with
 | none =>
   have : bs[i]? = none := by rw [List.getElem?_eq_none_iff] at hi ⊢; omega
   rw [this]; rfl
 | some e' =>
   obtain ⟨_, _, _, _, c2, c3⟩ := r8 h hi
   rw [c2]
   simp [c3.2.2.2.2.2]
theorem C1 (R : Rel E st g s a w) {k i ck ck' : Nat} {ag : Bool} {sh : List Sc} {es : List (V × Int)} {bs bs' left : List Nat} {last : Nat} (hk : aL s.sg k = .miter (.map i) bs ck left last) (hi : aL s.sg i = .map ag sh es bs' ck') :
   ∃ b b' seen arr, k < s.sg.length ∧ (g k).blk = some b ∧ E.G b ∧ w.heap[b]? = some (.mapIter (some b') ck seen ck) ∧ (g i).blk = some b' ∧ i < s.sg.length ∧ w.heap[b']? = some (.map arr ck') ∧ eh ag sh es bs' arr.toList ∧ oT bs' ck' ∧
    left = kN bs seen ∧ ((seen = #[] ∧ bs.length ≤ last) ∨ (seen.back? = some (bs.getD last 0) ∧ last < bs.length)) := by
 obtain ⟨hs1, hkl⟩ := dY hk (by simp)
 obtain ⟨hs2, hil⟩ := dY hi (by simp)
 obtain ⟨b, b', seen, h1, h2, h3, h4, h5, h6⟩ := R.wr.ob k _ hs1
 obtain ⟨b2, arr, q1, q2, q3, q4, q5, q6⟩ := R.wr.ob i _ hs2
 simp only [VR] at h4
 obtain ⟨_, b3, h7, h8⟩ := h4
 rw [q1] at h7; cases h7
 injection h8 with h8
 injection h8 with h8
 subst h8
 exact ⟨b, b', seen, arr, hkl, h1, h2, h3, q1, hil, q3, q4, q5, h5, h6⟩
theorem O2 {x : Operand} (R : Rel E st g s a w) (hg : aW C.gl st) (ho : o.op = .entry x) : cf C E st g s a w o (o6 C s x) := by
 unfold o6
 have hx := aZ (C := C) R hg x
 split
 . rename_i k he
   rw [he] at hx
   simp only [VR] at hx
   obtain ⟨hkl, b, hb, hx⟩ := hx
   split
   . rename_i i bs ck left last hs
     split
     . rename_i ag sh es bs' ck' hs2
       obtain ⟨b1, b', seen, arr, _, h1, h2, h3, h4, h5, h6, h7, h8, h9, h10⟩ := C1 R hs hs2
       rw [hb] at h1; cases h1
       refine aa.aN fun hq => ?_
       obtain ⟨rfl, rfl⟩ := hq
       rw [jN]
       refine aa.opt fun p hp => aa.ret ?_
       obtain ⟨s1, e1, c1, c2, c3⟩ := tB h7 (x := p.1) (q := p.2) hp
       obtain ⟨hl1, hl2⟩ := ph h7
       obtain ⟨hlt, _⟩ := List.getElem?_eq_some_iff.1 c1
       rcases h10 with ⟨_, h10⟩ | ⟨h10, _⟩
       . omega
       . have hs1 : bs'.getD last 0 = s1 := by rw [List.getD_eq_getElem?_getD, c1]; rfl
         rw [hs1] at h10
         have hpop : seen = seen.pop.push s1 := by
          apply Array.ext'
          rw [Array.toList_push, Array.toList_pop]
          have hl : seen.toList.getLast? = some s1 := by rw [Array.getLast?_toList]; exact h10
          obtain ⟨ys, hys⟩ := List.getLast?_eq_some_iff.1 hl
          rw [hys]; simp
         have hs1e : s1 = e1.born := c3.2.2.2.2.2.symm
         have hrun := run_entry_at (P := C.P) w b b' ck' seen.pop arr ck' e1 (by rw [← hs1e, ← hpop]; exact h3) h6 (List.mem_of_getElem? c2) (by rw [Bj h7]; exact h8.1)
         refine aI.pure R (.tuple #[e1.key, e1.val]) w ?_ (aU.refl w) ?_
         . simp only [execOp, ho, hx, Sem.run_bind, hrun, Result.andThen_ok]; rfl
         . simp only [VR]
           refine ⟨_, rfl, cg ?_ (cg ?_ cY)⟩
           . rw [c3.2.2.1]
             have hok := c3.2.1
             clear hp c3
             generalize p.1 = y at hok ⊢
             cases y with
             | str s => exact ⟨rfl, hok⟩
             | _ => trivial
           . rw [c3.2.2.2.1]
             exact oh c3.2.2.2.2.1
     . exact aa.fail
   . exact aa.fail
 . exact aa.fail
theorem Ms {bs : List Nat} {seen : Array Nat} {j : Nat} (hn : bs.Nodup) (hj : j < bs.length) : kN bs (seen.push (bs.getD j 0)) = (kN bs seen).erase j := by
 have hnd : (kN bs seen).Nodup := List.Nodup.sublist List.filter_sublist List.nodup_range
 rw [hnd.erase_eq_filter]
 unfold kN
 rw [List.filter_filter]
 refine List.filter_congr fun i hi => ?_
 have hi := List.mem_range.1 hi
 have hij : (bs.getD i 0 = bs.getD j 0) ↔ i = j := by
  rw [List.getD_eq_getElem?_getD, List.getD_eq_getElem?_getD, List.getElem?_eq_getElem hi, List.getElem?_eq_getElem hj]
  exact List.getElem_inj hn
 simp only [Array.toList_push, List.contains_append]
 by_cases e : i = j
 . subst e; simp
 . have : ¬ bs.getD i 0 = bs.getD j 0 := fun q => e (hij.1 q)
   have h2 : (i != j) = true := by simpa using e
   simp [h2, e]
   intro _
   simpa using this
theorem On {x : Operand} (R : Rel E st g s a w) (hg : aW C.gl st) (ho : o.op = .next x false) {K : Ef → AS → Prop} (h : uc C s x o.dst K) : ∃ e, K e (s.app o.dst e) ∧ aI C E st g s a w o e := by
 unfold uc at h
 have hx := aZ (C := C) R hg x
 split at h
 . rename_i k he
   rw [he] at hx
   simp only [VR] at hx
   obtain ⟨hkl, b, hb, hx⟩ := hx
   split at h
   . rename_i i bs ck left last hs
     split at h
     . rename_i ag sh es bs' ck' hs2
       obtain ⟨b1, b', seen, arr, _, h1, h2, h3, h4, h5, h6, h7, h8, h9, h10⟩ := C1 R hs hs2
       rw [hb] at h1; cases h1
       obtain ⟨⟨rfl, rfl⟩, k1, k2⟩ := h
       simp only [eE] at k1 k2
       have hborn := Bj h7
       have hold : ∀ y ∈ arr.toList, y.born < ck' := fun y hy => h8.2 _ (by rw [← hborn]; exact List.mem_map.2 ⟨y, hy, rfl⟩)
       obtain ⟨hl1, hl2⟩ := ph h7
       rcases run_next_at (P := C.P) w o.type b b' ck' ck' seen arr ck' h3 h6 hold (Nat.le_refl _) with ⟨n1, n2⟩ | ⟨en, n1, w1, n2, n3⟩
       . have hl : left = [] := by
           rw [h9]
           unfold kN
           rw [List.filter_eq_nil_iff]
           intro j hj
           have hj := List.mem_range.1 hj
           obtain ⟨en, hen⟩ : ∃ en, arr.toList[j]? = some en := ⟨_, List.getElem?_eq_getElem (by omega)⟩
           have hbj : bs'.getD j 0 = en.born := by
            rw [← hborn, List.getD_eq_getElem?_getD, List.getElem?_map, hen]; rfl
           rw [hbj]
           intro q
           have hmem : en ∈ (Go.leftOf arr seen).toList := by
            unfold Go.leftOf
            simp only [Array.mem_toList_iff, Array.mem_filter]
            refine ⟨by simpa using List.mem_of_getElem? hen, ?_⟩
            simpa using q
           rw [Array.eq_empty_of_size_eq_zero n1] at hmem
           simp at hmem
         refine ⟨_, k1 hl, aI.pure R (.tuple #[.bool false]) w ?_ (aU.refl w) ?_⟩
         . simp only [execOp, ho, hx, Sem.run_bind, n2, Result.andThen_ok]; rfl
         . simp only [VR]; exact ⟨_, rfl, cg dB cY⟩
       . unfold Go.leftOf at n1
         simp only [Array.mem_toList_iff, Array.mem_filter] at n1
         obtain ⟨m1, m2⟩ := n1
         obtain ⟨j, hj⟩ := List.getElem?_of_mem (show en ∈ arr.toList by simpa using m1)
         obtain ⟨hjl, _⟩ := List.getElem?_eq_some_iff.1 hj
         have hbj : bs'.getD j 0 = en.born := by
          rw [← hborn, List.getD_eq_getElem?_getD, List.getElem?_map, hj]; rfl
         have hjm : j ∈ left := by
          rw [h9]
          unfold kN
          refine List.mem_filter.2 ⟨List.mem_range.2 (by omega), ?_⟩
          rw [hbj]
          simpa using m2
         refine ⟨_, k2 j hjm, ?_⟩
         have hw1 : aU (bU w b (.mapIter (some b') ck' (seen.push en.born) ck')) (Go.ChangeMaps.setBlock w1 b (.mapIter (some b') ck' (seen.push en.born) ck')) := by
          rcases n2 with rfl | rfl <;> exact ⟨rfl, rfl, rfl, rfl⟩
         refine aI.fR R hkl (.tuple #[.bool true, en.key, en.val]) _ (g k) (.inl ?_) ((cP.bU h2 _ (fun b'' => by rw [hb]; simp [eq_comm]) (fun k v hv => ?_)).after hw1) (.inl rfl) (fun b hb => .inl hb) ?_ ?_
         . simp only [execOp, ho, hx, Sem.run_bind, n3, Result.andThen_ok]; rfl
         . have := R.wr.stw _ _ _ hv
           simp only [World.cell?, h3] at this
           cases this
         . rw [F2]
           refine cX.same ?_ hw1
           refine ⟨b, b', seen.push en.born, hb, h2, jo h3, ?_, ?_, .inr ⟨?_, by omega⟩⟩
           . simp only [VR]; exact ⟨h5, b', h4, rfl⟩
           . rw [← hbj, Ms h8.1 (by omega), h9]
           . rw [Array.back?_push, hbj]
         . simp only [VR]
           exact ⟨_, rfl, cg dB (cg (by simp [VR]) (cg (by simp [VR]) cY))⟩
     . exact h.elim
   . exact h.elim
 . exact h.elim
end
end Go.VG
namespace Go.VG
open Go
def sr (f : TypeId → Option (List Sc)) : List Field → Nat → Option (List Sc)
 | [], _ => some []
 | x :: xs, off => match Nat.beq x.offset off, f x.type with
   | true, some sh => match sr f xs (off + sh.length) with
     | some r => some (sh ++ r)
     | none => none
   | _, _ => none
def sj : Nat → List Sc → List Sc
 | 0, _ => []
 | n + 1, l => l ++ sj n l
def shapeOf (P : Program) : Nat → TypeId → Option (List Sc)
 | 0, _ => none
 | d + 1, t => match P.underlying t with
   | some .bool => cond (Nat.beq 1 (P.cellsOf t)) (some [.kB]) none
   | some (.int q) => cond (Nat.beq 1 (P.cellsOf t)) (some [.kI q]) none
   | some .string => cond (Nat.beq 1 (P.cellsOf t)) (some [.kS]) none
   | some (.array n e) => match shapeOf P d e with
     | some se => match Nat.beq (sj n se).length (P.cellsOf t) with
       | true => some (sj n se)
       | false => none
     | none => none
   | some (.struct fs) => match fs.all (·.name != "_"), sr (shapeOf P d) fs.toList 0 with
     | true, some sh => match Nat.beq sh.length (P.cellsOf t) with
       | true => some sh
       | false => none
     | _, _ => none
   | _ => none
def fV : V → Lit
 | .int k n => .int k n
 | .bool b => .bool b
 | .str s => .string s
 | _ => .bool false
theorem iL : ∀ {sh : List Sc} {cs : List V}, cA sh cs = true → sh.length = cs.length
 | [], [], _ => rfl
 | k :: ks, x :: xs, h => by
   simp only [cA, Bool.and_eq_true] at h
   simp [iL h.2]
 | [], _ :: _, h => by cases h
 | _ :: _, [], h => by cases h
theorem wc : ∀ {s1 s2 : List Sc} {cs : List V}, cA (s1 ++ s2) cs = true → cA s1 (cs.take s1.length) = true ∧ cA s2 (cs.drop s1.length) = true
 | [], _, cs, h => ⟨by cases cs <;> rfl, by simpa using h⟩
 | k :: ks, s2, [], h => by simp [cA] at h
 | k :: ks, s2, x :: xs, h => by
   simp only [List.cons_append, cA, Bool.and_eq_true] at h
   obtain ⟨a, b⟩ := wc h.2
   exact ⟨by simp [cA, h.1, a], by simpa using b⟩
variable {P : Program}
theorem wX {k k' : IntKind} (h : dZ k k' = true) : k = k' := by cases k <;> cases k' <;> first | rfl | cases h
theorem Pq {k : IntKind} {n : Int} (h : k.min ≤ n ∧ n ≤ k.max) : (Lit.int k n).wf = true := by
 simp only [Lit.wf, Bool.and_eq_true, decide_eq_true_eq]; exact h
theorem BG (D : Nat) (f : TypeId → Option (List Sc)) (hf : ∀ t sh, f t = some sh → sh.length = P.cellsOf t ∧ ∀ (st : St) (g : ay) (n : Nat) (cs : List V) (vs : List Value), cA sh cs = true → aJ st g cs n vs → P.keyLits D t vs = some (cs.map fV)) :
   ∀ (fs : List Field) (off : Nat) (sh : List Sc), sr f fs off = some sh → ∀ (st : St) (g : ay) (n : Nat) (cs : List V) (vs : List Value), cA sh (cs.drop off) = true → aJ st g cs n vs → off ≤ cs.length →
   ∃ xs, fs.mapM (fun f => P.keyLits D f.type ((vs.drop f.offset).take (P.cellsOf f.type))) = some xs ∧ xs.flatten = (cs.drop off).map fV
 | [], off, sh, h, st, g, n, cs, vs, hfit, hv, ho => by
   simp only [sr] at h
   cases h
   have := iL hfit
   simp at this
   refine ⟨[], by simp, ?_⟩
   rw [List.drop_eq_nil_of_le (by omega)]; rfl
 | x :: xs, off, sh, h, st, g, n, cs, vs, hfit, hv, ho => by
   simp only [sr] at h
   split at h
   . rename_i s1 e1 e2
     split at h
     . rename_i r e3
       cases h
       have e1 := Nat.eq_of_beq_eq_true e1
       obtain ⟨q1, q2⟩ := hf _ _ e2
       obtain ⟨f1, f2⟩ := wc hfit
       have hl := iL hfit
       rw [List.length_append, List.length_drop] at hl
       have hv1 : aJ st g ((cs.drop off).take s1.length) n ((vs.drop off).take s1.length) := qS (qP hv)
       have k1 := q2 st g n _ _ f1 hv1
       have f2' : cA r (cs.drop (off + s1.length)) = true := by rw [← List.drop_drop]; exact f2
       obtain ⟨ys, y1, y2⟩ := BG D f hf xs (off + s1.length) r e3 st g n cs vs f2' hv (by omega)
       refine ⟨((cs.drop off).take s1.length).map fV :: ys, ?_, ?_⟩
       . rw [List.mapM_cons, e1, ← q1, k1, y1]; rfl
       . rw [List.flatten_cons, y2, ← List.map_append, ← List.drop_drop, List.take_append_drop]
     . cases h
   . cases h
theorem Be (D : Nat) (e : TypeId) (se : List Sc) (hc : se.length = P.cellsOf e) (hk : ∀ (st : St) (g : ay) (n : Nat) (cs : List V) (vs : List Value), cA se cs = true → aJ st g cs n vs → P.keyLits D e vs = some (cs.map fV)) :
   ∀ (m k : Nat) (st : St) (g : ay) (n : Nat) (cs : List V) (vs : List Value), cA (sj m se) (cs.drop (k * se.length)) = true → aJ st g cs n vs →
   ∃ xs, (List.range' k m).mapM (fun i => P.keyLits D e ((vs.drop (i * P.cellsOf e)).take (P.cellsOf e))) = some xs ∧ xs.flatten = (cs.drop (k * se.length)).map fV
 | 0, k, st, g, n, cs, vs, hfit, hv => by
   have := iL hfit
   refine ⟨[], by simp, ?_⟩
   rw [List.eq_nil_of_length_eq_zero this.symm]; rfl
 | m + 1, k, st, g, n, cs, vs, hfit, hv => by
   obtain ⟨f1, f2⟩ := wc hfit
   have hv1 : aJ st g ((cs.drop (k * se.length)).take se.length) n ((vs.drop (k * se.length)).take se.length) := qS (qP hv)
   have k1 := hk st g n _ _ f1 hv1
   have hm : k * se.length + se.length = (k + 1) * se.length := by rw [Nat.add_mul, Nat.one_mul]
   have f2' : cA (sj m se) (cs.drop ((k + 1) * se.length)) = true := by rw [← hm, ← List.drop_drop]; exact f2
   obtain ⟨ys, y1, y2⟩ := Be D e se hc hk m (k + 1) st g n cs vs f2' hv
   refine ⟨((cs.drop (k * se.length)).take se.length).map fV :: ys, ?_, ?_⟩
   . rw [List.range'_succ, List.mapM_cons, y1, ← hc, k1]; rfl
   . rw [List.flatten_cons, y2, ← List.map_append, ← hm, ← List.drop_drop, List.take_append_drop]
theorem tg {b : Bool} {α : Type} {x y : α} (h : cond b (some x) none = some y) : b = true ∧ x = y := by cases b <;> simp_all
theorem xW : ∀ (d : Nat) (t : TypeId) (sh : List Sc), shapeOf P d t = some sh → sh.length = P.cellsOf t ∧ ∀ (st : St) (g : ay) (n : Nat) (cs : List V) (vs : List Value), cA sh cs = true → aJ st g cs n vs → P.keyLits d t vs = some (cs.map fV)
 | 0, _, _, h => by simp [shapeOf] at h
 | d + 1, t, sh, h => by
   have one : ∀ {k : Sc} {cs : List V}, cA [k] cs = true → ∃ x, cs = [x] ∧ il k x = true := fun {k cs} hf => by
    match cs, hf with
    | [x], hf => simp only [cA, Bool.and_true] at hf; exact ⟨x, rfl, hf⟩
    | [], hf => cases hf
    | x :: y :: r, hf => simp [cA] at hf
   have onev : ∀ {st : St} {g : ay} {n : Nat} {x : V} {vs : List Value}, aJ st g [x] n vs → ∃ v, vs = [v] ∧ VR st g x n v := fun {st g n x vs} hv => by
    simp only [aJ] at hv
    obtain ⟨u, us, rfl, h1, rfl⟩ := hv
    exact ⟨u, rfl, h1⟩
   simp only [shapeOf] at h
   split at h
   . rename_i hu
     obtain ⟨hb, rfl⟩ := tg h
     refine ⟨Nat.eq_of_beq_eq_true hb, fun st g n cs vs hf hv => ?_⟩
     obtain ⟨x, rfl, hx⟩ := one hf
     obtain ⟨v, rfl, hw⟩ := onev hv
     clear hv hf
     cases x <;> try (cases hx; done)
     simp only [VR] at hw
     subst hw
     simp [Program.keyLits, hu, fV]
   . rename_i q hu
     obtain ⟨hb, rfl⟩ := tg h
     refine ⟨Nat.eq_of_beq_eq_true hb, fun st g n cs vs hf hv => ?_⟩
     obtain ⟨x, rfl, hx⟩ := one hf
     obtain ⟨v, rfl, hw⟩ := onev hv
     clear hv hf
     cases x <;> try (cases hx; done)
     have hx := wX hx
     subst hx
     simp only [VR] at hw
     obtain ⟨rfl, hw⟩ := hw
     simp [Program.keyLits, hu, fV, Pq hw]
   . rename_i hu
     obtain ⟨hb, rfl⟩ := tg h
     refine ⟨Nat.eq_of_beq_eq_true hb, fun st g n cs vs hf hv => ?_⟩
     obtain ⟨x, rfl, hx⟩ := one hf
     obtain ⟨v, rfl, hw⟩ := onev hv
     clear hv hf
     cases x <;> try (cases hx; done)
     simp only [VR] at hw
     obtain ⟨rfl, hw⟩ := hw
     rename_i s
     have hsz : (⟨s.toArray⟩ : ByteArray).size = s.length := by show s.toArray.size = _; simp
     simp [Program.keyLits, hu, fV, hsz, hw]
   . rename_i m e hu
     split at h
     . rename_i se hse
       split at h
       . rename_i hb
         cases h
         obtain ⟨q1, q2⟩ := xW d e se hse
         refine ⟨Nat.eq_of_beq_eq_true hb, fun st g n cs vs hf hv => ?_⟩
         obtain ⟨xs, x1, x2⟩ := Be d e se q1 q2 m 0 st g n cs vs (by simpa using hf) hv
         have hlen : vs.length = P.cellsOf t := by rw [← eD hv, ← iL hf]; exact Nat.eq_of_beq_eq_true hb
         unfold Program.keyLits
         simp only [hu]
         rw [if_pos hlen, List.range_eq_range', x1]
         simp [x2]
       . cases h
     . cases h
   . rename_i fs hu
     split at h
     . rename_i sh' ha hsf
       split at h
       . rename_i hb
         cases h
         refine ⟨Nat.eq_of_beq_eq_true hb, fun st g n cs vs hf hv => ?_⟩
         obtain ⟨xs, x1, x2⟩ := BG d (shapeOf P d) (fun t sh h => xW d t sh h) fs.toList 0 sh hsf st g n cs vs (by simpa using hf) hv (Nat.zero_le _)
         have hlen : vs.length = P.cellsOf t := by rw [← eD hv, ← iL hf]; exact Nat.eq_of_beq_eq_true hb
         unfold Program.keyLits
         simp only [hu]
         rw [if_pos ⟨hlen, ha⟩, x1]
         simp [x2]
       . cases h
     . cases h
   . cases h
theorem Gc : ∀ {sh : List Sc} {cs ds : List V} {r : Bool}, sh ≠ [] → cA sh cs = true → cA sh ds = true → eqs cs ds = some r → (r = true ↔ cs.map fV = ds.map fV) := by
 have e1 : ∀ {k : Sc} {x y : V} {r : Bool}, il k x = true → il k y = true → o3 x y = some r → (r = true ↔ fV x = fV y) := fun {k x y r} hx hy h => by
  cases k <;> cases x <;> simp only [il, Bool.false_eq_true] at hx <;> cases y <;> simp only [il, Bool.false_eq_true] at hy
  . simp only [o3, Option.some.injEq] at h; subst h; simp [fV]
  . have hx := wX hx
    have hy := wX hy
    subst hx; subst hy
    simp only [o3] at h
    obtain ⟨_, rfl⟩ := tg h
    simp [fV]
  . simp only [o3, Option.some.injEq] at h; subst h; simp [fV]
 intro sh
 induction sh with
 | nil => intro cs ds r h; exact absurd rfl h
 | cons k ks ih =>
   intro cs ds r _ hc hd h
   match cs, ds, hc, hd with
   | [], _, hc, _ => cases hc
   | _ :: _, [], _, hd => cases hd
   | x :: xs, y :: ys, hc, hd =>
     simp only [cA, Bool.and_eq_true] at hc hd
     by_cases hk : ks = []
     . subst hk
       have l1 := iL hc.2
       have l2 := iL hd.2
       obtain rfl : xs = [] := List.eq_nil_of_length_eq_zero l1.symm
       obtain rfl : ys = [] := List.eq_nil_of_length_eq_zero l2.symm
       simp only [eqs] at h
       rw [e1 hc.1 hd.1 h]; simp
     . have hxs : xs ≠ [] := fun e => hk (by subst e; exact List.eq_nil_of_length_eq_zero (iL hc.2))
       have h : (match o3 x y, eqs xs ys with
        | some a, some b => some (a && b)
        | _, _ => none) = some r := by
        cases xs with
        | nil => exact absurd rfl hxs
        | cons x2 xr =>
          cases ys with
          | nil => have := iL hd.2; have := iL hc.2; simp_all
          | cons y2 yr => exact h
       split at h
       . rename_i a b ha hb
         cases h
         rw [Bool.and_eq_true, e1 hc.1 hd.1 ha, ih hk hc.2 hd.2 hb]; simp
       . cases h
theorem fM {t : TypeId} {sh : List Sc} (hne : sh ≠ []) (h1 : shapeOf P 8 t = some sh) (h2 : P.keyTypeAt 8 t = true) (h3 : P.eqGuardType P.depth t = false) (h4 : (match P.underlying t with | some (.struct _) => true | some (.array _ _) => true | _ => false) = true) : vw P t sh := by
 intro st g n cs ds r a b w hc hd he hl ha hb
 obtain ⟨q1, q2⟩ := xW 8 t sh h1
 have k1 := q2 st g n cs _ hc ha
 have k2 := q2 st g n ds _ hd hb
 have fm : ∀ (x : Array Value), x.toList.length = P.cellsOf t → (Value.agg x).formed P t = true := fun x hx => by
  split at h4
  . rename_i fs hu; simp at hx; simp [Value.formed, hu, hx]
  . rename_i m e hu; simp at hx; simp [Value.formed, hu, hx]
  . cases h4
 obtain ⟨r', e1, e2⟩ := run_equalIn_deep (P := P) 9992 8 t h2 w 8 8 (.agg a) (.agg b) _ _ (fm a (by rw [← eD ha, ← iL hc]; exact q1)) (fm b (by rw [← eD hb, ← iL hd]; exact q1)) k1 k2
 have e3 := Gc hne hc hd he
 have : r' = r := by
  cases r <;> cases r' <;> simp_all
 subst this
 exact ⟨e1, h3⟩
theorem Mk {P : Program} {k : TypeId} (h : P.underlying k = some .string) : qJ P k [.kS] := by
 refine ⟨WideMaps.string_law h, fun x hx ho => ?_⟩
 have ha : nK P k = false := by unfold nK; rw [h]
 rw [ha] at hx
 rcases rf hx with ⟨_, _, h0, _⟩ | ⟨k', _, e, h1, h2, h3⟩
 . cases h0
 . cases e
   cases x <;> simp only [il, Bool.false_eq_true] at h1
   rename_i s
   have hl : s.length ≤ maxLen := h3.1 ho
   rw [h2]
   exact ⟨_, WideMaps.keyOf_string_mk h (s := ⟨s.toArray⟩) (by show s.toArray.size ≤ _; simpa using hl)⟩
end Go.VG
namespace Go.VG
open Go

section
variable {C : Ctx} {E : Env} {st : St} {g : ay} {s : AS} {a : Act} {w : World} {o : Oper} {e : Ef}

theorem qa {n m : Nat} (h : n ≤ maxLen) : VR st g (.int .i64 (n : Int)) m (goInt n) := by
 refine eB ⟨?_, ?_⟩
 . simp [IntKind.min, IntKind.signed, IntKind.bits]
 . rw [IntKind.max_i64]; unfold maxLen at h; omega

theorem O1 {t t2 e : TypeId} {x y : Operand} {i : Nat} {l : List V} {sz : Nat} {ys : List V} {rd : List Nat} {args : Array Operand} (R : Rel E st g s a w) (hg : aW C.gl st) (G : Good C) (hargs : args.toList = [x, y])
   (ho : o.op = .call { callee := .builtin .copy, args := args, argTypes := #[t, t2] }) (hk : (C.ti t).k = .slice e) (hk2 : (C.ti e).k ≠ .other) (hx0 : s.ev C x = .buf i) (hs : aL s.sg i = .buf (C.ti e).size 0 l)
   (hy : oR E st g w (a.eval y) sz ys) (hsz : iU sz (C.ti e).size ys = true) :
   aI C E st g s a w o ⟨.int .i64 (min ys.length l.length : Nat), [], [(i, .buf (C.ti e).size 0 (ys.take l.length ++ l.drop ys.length))], [], i :: rd⟩ := by
 have hx := aZ (C := C) R hg x
 rw [hx0] at hx
 simp only [VR] at hx
 obtain ⟨hil, hx⟩ := hx
 obtain ⟨hs1, _⟩ := dY hs (by simp)
 obtain ⟨q1, q2, q3, q4, q5, q6, q7⟩ := R.wr.ob i _ hs1
 have ht : C.P.underlying t = some (.slice e) := by
  have h3 := ((G.ti t).of (by rw [hk]; simp)).1
  rw [hk] at h3; exact h3
 obtain ⟨cs, c1, c2, c3, c4⟩ := hy.cells hsz q1
 have hargs' : args = #[x, y] := by cases args; simp_all
 subst hargs'
 have hn : min ys.length l.length ≤ ys.length := Nat.min_le_left _ _
 have hn2 : min ys.length l.length ≤ l.length := Nat.min_le_right _ _
 have hnm : min ys.length l.length ≤ maxLen := Nat.le_trans hn2 q4
 have hl1 : (ys.take l.length ++ l.drop ys.length).length = l.length := by simp; omega
 have hc := (c4 C.P w rfl).1
 have hc2 := (c4 C.P w rfl).2 _ hn
 have hmin : Nat.min ys.length l.length = min ys.length l.length := rfl
 generalize hN : min ys.length l.length = N at *
 have hV : VR st (ba g i (g i)) (.int .i64 (N : Nat)) s.sg.length (goInt N) := qa hnm
 rcases q7 with ⟨q7, q8⟩ | ⟨b', c, el, fr, k1, k2, k3, k4, k5, k6, k7, k8⟩
 . have hl0 : l = [] := List.eq_nil_of_length_eq_zero (by omega)
   subst hl0
   have hN0 : N = 0 := by simp only [List.length_nil] at hn2; omega
   subst hN0
   have hr : (Builtin.copy_ #[t, t2] o.type #[a.eval x, a.eval y]).run C.P w = .ok (goInt 0) w := by
    unfold Builtin.copy_
    simp only [List.getElem?_toArray, List.getElem?_cons_zero, List.getElem?_cons_succ, run_underlying ht, Sem.run_bind, Sem.run_pure, Result.andThen_ok, hx, hc, q5, fB w (G.ti e) hk2, hmin, hc2]
    cases (g i).base <;> simp only [Nat.zero_mul, List.take_zero] <;> rfl
   refine aI.fR R hil _ w (g i) (.inl (by simp only [execOp, ho, resolve, invoke, builtin]; simp [hr])) ⟨rfl, rfl, rfl, Nat.le_refl _, fun _ _ _ => rfl, fun b hb => (R.wr.bQ hil hb).2, fun _ _ _ h => h, fun _ _ _ h => .inl h, fun b o v _ h => R.wr.stw _ _ _ h⟩
    (.inl rfl) (fun b hb => .inl hb) ?_ hV
   exact ⟨q1, q2, by simp, by simp, by simpa using q5, by simp, .inl ⟨q7, q8⟩⟩
 . have hin : N * (C.ti e).size ≤ l.length * (C.ti e).size := Nat.mul_le_mul_right _ hn2
   have hin2 : l.length * (C.ti e).size ≤ c.size := by rw [k5]; exact Nat.mul_le_mul_right _ q6
   have hin3 : N * (C.ti e).size ≤ cs.length := by rw [c1]; exact Nat.mul_le_mul_right _ hn
   have htl : (cs.take (N * (C.ti e).size)).length = N * (C.ti e).size := by simp; omega
   have hlen : cs.take (N * (C.ti e).size) = [] ∨ 0 + (cs.take (N * (C.ti e).size)).length ≤ c.toList.length := by right; rw [htl]; simp; omega
   have hst := uA (P := C.P) (b := b') (o := 0) (cs.take (N * (C.ti e).size)) 0 c w k4 k7 (by simpa using hlen) (fun v hv => c2 v (List.mem_of_mem_take hv))
   rw [Nat.add_zero] at hst
   have hcell := s4 (xs := c.toList) (ys := cs.take (N * (C.ti e).size)) (o := 0) hlen
   have hr : (Builtin.copy_ #[t, t2] o.type #[a.eval x, a.eval y]).run C.P w = .ok (goInt N) (bU w b' (.cells (over c.toList 0 (cs.take (N * (C.ti e).size))).toArray el fr)) := by
    unfold Builtin.copy_
    simp only [List.getElem?_toArray, List.getElem?_cons_zero, List.getElem?_cons_succ, run_underlying ht, Sem.run_bind, Sem.run_pure, Result.andThen_ok, hx, hc, q5, fB w (G.ti e) hk2, hmin, hc2, k2, hst]
   have hug : ba g i (g i) = g := by funext j; by_cases e : j = i <;> simp [ba, e]
   refine aI.fR R hil _ _ (g i) (.inl (by simp only [execOp, ho, resolve, invoke, builtin]; simp [hr]; rfl)) (cP.bU k3 _ (fun b'' => by rw [k1]; simp [eq_comm]) (fun k v hv => ?_))
    (.inl rfl) (fun b hb => .inl hb) ?_ hV
   . have h9 := k8 k v hv
     omega
   . rw [hug]
     refine ⟨q1, q2, by simp, by rw [hl1]; exact q4, by rw [hl1]; exact q5, by rw [hl1]; exact q6, .inr ⟨b', _, el, fr, k1, k2, k3, jo k4, ?_, ?_, ?_, k8⟩⟩
     . simp only [List.size_toArray, kR hlen, Array.length_toList]; exact k5
     . have hrow1 := c3 (fun k => cs[k]?) 0 (fun k u hu => by rw [Nat.zero_add]; exact hu)
       rw [eW] at hrow1 k6 ⊢
       intro j z hz
       have hmul : j < N → j * (C.ti e).size + (C.ti e).size ≤ N * (C.ti e).size := fun h => by
        have := Nat.mul_le_mul_right (C.ti e).size (show j + 1 ≤ N by omega)
        rw [Nat.add_mul, Nat.one_mul] at this; exact this
       rcases Nat.lt_or_ge j N with hj | hj
       . rw [List.getElem?_append_left (by simp; omega), List.getElem?_take, if_pos (by omega)] at hz
         obtain ⟨u, u1, u2, u3, u4⟩ := hrow1 j z hz
         refine ⟨u, u1, u2, u3, fun k hk => ?_⟩
         have := hmul hj
         rw [List.getElem?_toArray, hcell, if_pos (by rw [htl]; omega), List.getElem?_take, if_pos (by omega), ← u4 k hk]
         congr 1
       . have hz' : l[j]? = some z := by
           rw [List.getElem?_append_right (by simp; omega), List.getElem?_drop] at hz
           rcases Nat.lt_or_ge l.length ys.length with hll | hll
           . rw [List.getElem?_eq_none (by omega)] at hz; cases hz
           . rw [← hz, List.length_take]; congr 1; omega
         obtain ⟨u, u1, u2, u3, u4⟩ := k6 j z hz'
         refine ⟨u, u1, u2, u3, fun k hk => ?_⟩
         have : N * (C.ti e).size ≤ j * (C.ti e).size := Nat.mul_le_mul_right _ hj
         have h5 := u4 k hk
         rw [List.getElem?_toArray, hcell, if_neg (by rw [htl]; omega), ← h5]
         simp
     . refine ⟨k7.1, fun k hk => ?_⟩
       refine k7.2 k ?_
       simp only [List.size_toArray, kR hlen, Array.length_toList] at hk
       exact hk

theorem re {x y : V} {l : List Operand} (h : s.aX C l = [x, y]) : ∃ p q, l = [p, q] ∧ x = s.ev C p ∧ y = s.ev C q := by
 match l, h with
 | [p, q], h => simp only [AS.aX, List.cons.injEq, and_true] at h; exact ⟨p, q, rfl, h.1.symm, h.2.symm⟩
 | [], h => simp [AS.aX] at h
 | [_], h => simp [AS.aX] at h
 | _ :: _ :: _ :: _, h => simp [AS.aX] at h
theorem GW {x : V} {l : List Operand} (h : s.aX C l = [x]) : ∃ p, l = [p] ∧ x = s.ev C p := by
 match l, h with
 | [p], h => simp only [AS.aX, List.cons.injEq, and_true] at h; exact ⟨p, rfl, h.symm⟩
 | [], h => simp [AS.aX] at h
 | _ :: _ :: _, h => simp [AS.aX] at h

theorem NY {b : Builtin} {args : Array Operand} {ts : Array TypeId} (R : Rel E st g s a w) (hg : aW C.gl st) (G : Good C) (ho : o.op = .call { callee := .builtin b, args := args, argTypes := ts }) :
   cf C E st g s a w o (jK C s b ts.toList (s.aX C args.toList)) := by
 generalize hts : ts.toList = tl
 generalize hxs : s.aX C args.toList = xs
 have hts' : ts = tl.toArray := by rw [← hts]
 subst hts'
 have hbi : ∀ v : Value, (builtin b tl.toArray o.type (args.map fun | .const _ => true | _ => false) (args.toList.map a.eval).toArray).run C.P w = .ok (.value v) w → (execOp a.eval o).run C.P w = .ok (.value v) w := fun v h => by
  have he : args.map a.eval = (args.toList.map a.eval).toArray := by cases args; simp
  simp only [execOp, ho, resolve, invoke, Sem.run_bind, Sem.run_pure, Result.andThen_ok, he]
  exact h
 unfold jK
 split
 . -- len
   rename_i t x
   obtain ⟨p, hp, rfl⟩ := GW hxs
   have hx := aZ (C := C) R hg p
   rw [hp] at hbi
   split
   . rename_i n e hk
     have h3 := ((G.ti t).of (by rw [hk]; simp)).1
     rw [hk] at h3
     refine aa.when fun hn => aa.ret (aI.pure R (goInt n) w (hbi _ ?_) (aU.refl w) (qa (Nat.le_trans (Nat.le_of_ble_eq_true hn) rO)))
     simp [builtin, Builtin.len_, run_underlying h3]
   . rename_i hk
     have h3 := ((G.ti t).of (by rw [hk]; simp)).1
     rw [hk] at h3
     split
     . rename_i p' he
       rw [he] at hx
       simp only [VR] at hx
       refine aa.ret (aI.pure R (goInt p'.length) w (hbi _ ?_) (aU.refl w) (qa hx.2))
       have hpsz : (⟨p'.toArray⟩ : ByteArray).size = p'.length := by show p'.toArray.size = _; simp
       simp [builtin, Builtin.len_, run_underlying h3, hx.1, hpsz]
     . exact aa.fail
   . rename_i e hk
     have h3 := ((G.ti t).of (by rw [hk]; simp)).1
     rw [hk] at h3
     split
     . rename_i c z l he
       rw [he] at hx
       simp only [VR] at hx
       obtain ⟨base, cap, hx, h1, h2, _⟩ := hx
       refine aa.ret (aI.pure R (goInt l.length) w (hbi _ ?_) (aU.refl w) (qa h2))
       simp [builtin, Builtin.len_, run_underlying h3, hx]
     . rename_i i he
       rw [he] at hx
       simp only [VR] at hx
       split
       . rename_i sz pre l hs
         obtain ⟨hs1, _⟩ := dY hs (by simp)
         obtain ⟨q1, q2, q3, q4, q5, q6, q7⟩ := R.wr.ob i _ hs1
         refine aa.ret (aI.pure R (goInt l.length) w (hbi _ ?_) (aU.refl w) (qa q4))
         simp [builtin, Builtin.len_, run_underlying h3, hx, q5]
       . exact aa.fail
     . exact aa.fail
   . exact aa.fail
 . -- append
   rename_i t t2 x y
   obtain ⟨p, q, hp, rfl, rfl⟩ := re hxs
   split
   . exact aa.fail
   . exact aa.fail
   . rename_i e hk hk2 hk3
     split
     . exact aa.fail
     . rename_i hk4
       refine aa.when fun hw => ?_
       simp only [Bool.and_eq_true, Bool.not_eq_true'] at hw
       obtain ⟨⟨⟨hw1, hw2⟩, hw3⟩, hw4⟩ := hw
       refine aa.bind (mg _ _) fun r hr => ?_
       have hr := w4 (C := C) (x := q) R hg r (hr _ rfl)
       obtain ⟨sz, ys, rd⟩ := r
       refine aa.when fun hsz => ?_
       have h3 := ((G.ti t).of (by rw [hk]; simp)).1
       rw [hk] at h3
       exact NR R hg G hp ho h3 (MZ G (fun k h => hk2 k h) (fun h => hk3 h)) (fun h => hk4 h) (Nat.le_of_ble_eq_true hw1) (Nat.le_of_ble_eq_true hw2) hr.1 hsz hw3 (Nat.eq_of_beq_eq_true hw4)
   . exact aa.fail
 . -- copy
   rename_i t t2 x y
   obtain ⟨p, q, hp, rfl, rfl⟩ := re hxs
   split
   . rename_i e i hk he
     split
     . exact aa.fail
     . rename_i hk4
       split
       . rename_i sz0 l hs
         refine aa.bind (mg _ _) fun r hr => ?_
         have hr := w4 (C := C) (x := q) R hg r (hr _ rfl)
         obtain ⟨sz, ys, rd⟩ := r
         refine aa.when fun hw => aa.ret ?_
         simp only [Bool.and_eq_true] at hw
         have h1 := Nat.eq_of_beq_eq_true hw.1.2
         subst h1
         exact O1 R hg G hp ho hk (fun h => hk4 h) he hs hr.1 hw.1.1
       . exact aa.fail
   . exact aa.fail
 . -- delete
   rename_i t tl' m x
   obtain ⟨p, q, hp, rfl, rfl⟩ := re hxs
   rw [hp] at hbi
   refine FU (ats := (t :: tl').toArray) (ty := o.type) R G (aZ (C := C) R hg p) (aZ (C := C) R hg q) (by simp) fun w' hw' => ?_
   have := ho
   simp only [execOp, ho, resolve, invoke, Sem.run_bind, Sem.run_pure, Result.andThen_ok]
   have he : args.map a.eval = #[a.eval p, a.eval q] := by
    have : args = #[p, q] := by apply Array.ext'; simpa using hp
    rw [this]; simp
   rw [he]
   simp only [builtin, Sem.run_bind, hw', Result.andThen_ok]
   rfl
 . rename_i k x k' y
   obtain ⟨p, q, hp, hx, hy⟩ := re hxs
   have h1 := aZ (C := C) R hg p
   have h2 := aZ (C := C) R hg q
   rw [← hx] at h1; rw [← hy] at h2
   simp only [VR] at h1 h2
   refine aa.when fun hk => aa.ret ?_
   have hk := wW.1 hk
   subst hk
   rw [hp] at hbi
   refine aI.pure R (.int k (if y > x then y else x)) w (hbi _ ?_) (aU.refl w) (eB (by split <;> simp [h1, h2]))
   simp [builtin, Builtin.max_, Builtin.max2, h1.1, h2.1]
 . rename_i k x k' y
   obtain ⟨p, q, hp, hx, hy⟩ := re hxs
   have h1 := aZ (C := C) R hg p
   have h2 := aZ (C := C) R hg q
   rw [← hx] at h1; rw [← hy] at h2
   simp only [VR] at h1 h2
   refine aa.when fun hk => aa.ret ?_
   have hk := wW.1 hk
   subst hk
   rw [hp] at hbi
   refine aI.pure R (.int k (if y < x then y else x)) w (hbi _ ?_) (aU.refl w) (eB (by split <;> simp [h1, h2]))
   simp [builtin, Builtin.min_, Builtin.min2, h1.1, h2.1]
 . exact aa.fail

theorem O9 {t : TypeId} {x : Operand} (R : Rel E st g s a w) (hg : aW C.gl st) (G : Good C) (ho : o.op = .range t x) : cf C E st g s a w o (mq C s t x) := by
 unfold mq
 have hx := aZ (C := C) R hg x
 split
 . rename_i p hk he
   rw [he] at hx
   simp only [VR] at hx
   have h3 := ((G.ti t).of (by rw [hk]; simp)).1
   rw [hk] at h3
   rw [de]
   refine aa.ret ?_
   refine aI.new R (.pointer (some ⟨w.heap.size, 0, none⟩)) w (aU.refl w) ⟨some w.heap.size, none, 0, 0, 0⟩ (.stringIter ⟨p.toArray⟩ 0) ?_ (by simp) ?_ ?_
   . simp only [execOp, ho, hx.1]
     rw [Sem.run_bind, run_range_string w t _ h3]
     rfl
   . exact ⟨hx.2, w.heap.size, rfl, R.wr.gnew _ R.wr.size, heap_alloc_new⟩
   . simp only [VR, dg]
     exact ⟨by omega, w.heap.size, rfl, rfl⟩
 . exact Oa R hg G ho
 . exact aa.fail

theorem Om {x : Operand} {b : Bool} (R : Rel E st g s a w) (hg : aW C.gl st) (ho : o.op = .next x b) : cf C E st g s a w o (o8 C s x b) := by
 unfold o8
 have hx := aZ (C := C) R hg x
 split
 . rename_i i he
   rw [he] at hx
   simp only [VR] at hx
   obtain ⟨hil, b, hb, hx⟩ := hx
   split
   . rename_i p pos hs
     obtain ⟨hs1, _⟩ := dY hs (by simp)
     obtain ⟨q1, b', q2, q3, q4⟩ := R.wr.ob i _ hs1
     rw [hb] at q2; cases q2
     have hpsz : (⟨p.toArray⟩ : ByteArray).size = p.length := by show p.toArray.size = _; simp
     refine aa.c8 (fun hlt => ?_) (fun hge => ?_)
     . have hlt : pos < p.length := by simpa using hlt
       refine aa.opt fun c hc => aa.aN fun ha => aa.ret ?_
       have hcv : p[pos] = c := by rw [List.getElem?_eq_getElem hlt] at hc; simpa using hc
       have hlt' : pos < (⟨p.toArray⟩ : ByteArray).size := by rw [hpsz]; exact hlt
       have hget : (⟨p.toArray⟩ : ByteArray)[pos]'hlt' = c := by rw [← hcv]; rfl
       have hdec := decode_ascii ⟨p.toArray⟩ pos hlt' (by rw [hget]; exact ha)
       rw [hget] at hdec
       have hug : ba g i (g i) = g := by funext j; by_cases e : j = i <;> simp [ba, e]
       refine aI.fR R hil (.tuple #[.bool true, goInt pos, .int .i32 c.toNat]) (bU w b (.stringIter ⟨p.toArray⟩ (pos + 1))) (g i) (.inl ?_)
        (cP.bU q3 _ (fun b'' => by rw [hb]; simp [eq_comm]) (fun k v hv => ?_)) (.inl rfl) (fun b hb => .inl hb) ?_ ?_
       . simp only [execOp, ho, hx, Instr.next, getObj, setObj, Sem.run_bind, Sem.run, q4, Result.andThen, hlt', if_true, hdec]
         rfl
       . have := R.wr.stw _ _ _ hv
         simp only [World.cell?, q4] at this
         cases this
       . exact ⟨q1, b, hb, q3, jo q4⟩
       . simp only [VR]
         refine ⟨_, rfl, cg (by simp [VR]) (cg (qa (n := pos) (by omega)) (cg ?_ cY))⟩
         have := vS c
         refine eB ⟨?_, ?_⟩ <;> simp [IntKind.min, IntKind.max, IntKind.signed, IntKind.bits] <;> omega
     . have hge : ¬ pos < (⟨p.toArray⟩ : ByteArray).size := by rw [hpsz]; simpa using hge
       refine aa.ret (aI.pure R (.tuple #[.bool false]) w ?_ (aU.refl w) ?_)
       . simp only [execOp, ho, hx, Instr.next, getObj, setObj, Sem.run_bind, Sem.run, q4, Result.andThen, hge, if_false]
         rfl
       . simp only [VR]
         exact ⟨_, rfl, cg (by simp [VR]) cY⟩
   . exact aa.fail
 . exact aa.fail
end
end Go.VG
