/-
  A part of the proof.
-/
import Derived.Test.YtipejldppicijaaGreatDoorGR
import Derived.Test.YtipejldppicijaaGreatDoorPCheck
import Derived.Test.YtipejldppicijaaGreatDoorCWu
set_option linter.unusedSimpArgs false
set_option linter.unusedVariables false
set_option maxHeartbeats 4000000
namespace Go.Proofs.YtipejldppicijaaGreatDoor
open Go Go.VG
set_option maxRecDepth 100000
theorem size_pos (v : ae) : 1 ≤ v.size := by have := size_eq v; omega
theorem xU {v : ae} (hv : v.ok) : (text v).length ≤ 120 * v.size := by
 have hz := size_eq v
 have hb := ok_eq hv
 have a1 := u9 v.num
 have a2 := pg hb.2.1.1 hb.2.1.2
 have a3 := pf v.bits
 have a4 := gm v.text
 unfold text
 split
 . have := jJ v hv; omega
 . unfold simple
   repeat' split
   all_goals (try simp only [List.length_nil])
   all_goals omega
structure cX (l : List ak) : Prop where
 ok : ∀ a ∈ l, a.value.ok
 z : bE l ≤ 4000
theorem qA : ∀ {l : List ak} {a : ak}, a ∈ l → a.key.length + a.value.size ≤ bE l
 | b :: l, a, h => by
   rw [bE, lz]
   rcases List.mem_cons.1 h with rfl | h
   . omega
   . have := qA h; omega
theorem jW : ∀ l : List ak, l.length ≤ bE l
 | [] => Nat.zero_le _
 | a :: l => by
   have := jW l
   have := size_pos a.value
   rw [bE, lz, List.length_cons]; omega
theorem cX.a {l : List ak} (h : cX l) : ∀ a ∈ l, ki a := fun a ha => by
 have h1 := qA ha
 have h2 := h.z
 have h3 := xU (h.ok a ha)
 have h4 := size_eq a.value
 exact ⟨h.ok a ha, by omega, by omega, by omega⟩
theorem DO {a : ak} (h : ki a) (hs : a.value.size ≤ 4000) : (aB a).length ≤ 1600 * (a.key.length + a.value.size) := by
 have h1 := xU h.ok
 have hr := (Lk a.key a.value h.ok h.k h.t h.x).2
 have h2 := size_pos a.value
 have e : CS.new.ops (cL 0 a.key a.value (text a.value)) = ⟨aB a, [], 0⟩ := by
  rw [lj, show CS.new.struct 0 = ⟨[], [] ++ [⟨false, 0, 0, 0⟩], 0⟩ from rfl, mG (by decide) (by unfold bp; decide), y3 (.inl rfl) (by unfold bp; decide) (rQ (oH _)), B7 (ok_eq h.ok).2.1]
  refine (uU (out := _) (id := _)).trans ?_
  unfold aB mY lK
  simp only [List.map_cons, List.map_nil, dd, List.append_assoc, List.append_nil, List.nil_append]
 rw [e, rH] at hr
 have hr : (aB a).length ≤ _ := hr
 omega
theorem uX : ∀ l : List ak, cX l → (l.map aB).flatten.length ≤ 1600 * bE l
 | [], _ => Nat.zero_le _
 | a :: l, h => by
   have hz := h.z
   rw [bE, lz] at hz
   have h1 := DO (h.a a List.mem_cons_self) (by omega)
   have h2 := uX l ⟨fun b hb => h.ok b (List.mem_cons_of_mem _ hb), by omega⟩
   rw [bE, lz, List.map_cons, List.flatten_cons, List.length_append]; omega
theorem cX.take {l : List ak} (h : cX l) (i : Nat) : cX (l.take i) := by
 refine ⟨fun a ha => h.ok a (List.mem_of_mem_take ha), Nat.le_trans ?_ h.z⟩
 have : ∀ (l : List ak) (i : Nat), bE (l.take i) ≤ bE l := fun l => by
  induction l with
  | nil => intro i; simp
  | cons a l ih =>
    intro i
    cases i with
    | zero => simp [bE]
    | succ i => rw [List.take_succ_cons, bE, bE]; have := ih i; omega
 exact this l i
theorem C0 (n : Int) (k : UInt8) : (c9 n k).length ≤ 20 := by have := @sw n k; omega
theorem BS {l : List ak} (h : cX l) : (eH l).length ≤ 7000000 := by
 have h1 := uX l h
 have h2 := h.z
 have h3 := C0 l.length (byte 12)
 unfold eH mH
 split
 . decide
 . simp only [List.length_append, show (b6 0 5 (byte 9)).length = 1 by decide, List.length_singleton]; omega
def w0 : CS := ⟨[], [⟨false, 0, 0, 0⟩], 0⟩
def wi (l : List ak) (i : Nat) : CS := ⟨b6 0 5 (byte 9) ++ c9 l.length (byte 12) ++ ((l.take i).map aB).flatten, [⟨false, 5, 0, 0⟩, ⟨true, 0, (l.length : Int) - i, 12⟩], 0⟩
theorem wi_0 {l : List ak} (h : 0 < l.length) (hz : cX l) : w0.list 5 l.length 12 = wi l 0 := by
 have := jW l
 have := hz.z
 unfold w0
 rw [vF (by omega)]
 unfold wi
 simp
theorem qZ {l : List ak} {i : Nat} (h : i < l.length) : l.take (i + 1) = l.take i ++ [l.getD i default] := by
 rw [List.take_add_one, List.getD_eq_getElem?_getD, List.getElem?_eq_getElem h]; rfl
theorem sm {l : List ak} {i : Nat} (h : i < l.length) : l.getD i default ∈ l := by
 rw [List.getD_eq_getElem?_getD, List.getElem?_eq_getElem h]; exact List.getElem_mem h
theorem wi_s {l : List ak} {i : Nat} (h : i < l.length) (hz : cX l) : (wi l i).ops (cL 0 (l.getD i default).key (l.getD i default).value (text (l.getD i default).value)) = wi l (i + 1) := by
 have h1 := jW l
 have h2 := hz.z
 unfold wi
 rw [D5 (hz.a _ (sm h)) (by omega), qZ h, List.map_append, List.flatten_append, List.append_assoc]
 rw [show (l.length : Int) - i - 1 = l.length - ((i + 1 : Nat) : Int) by omega]
 simp only [List.map_cons, List.map_nil, List.flatten_cons, List.flatten_nil, List.append_nil, List.append_assoc]; rfl
theorem wi_b {l : List ak} (hz : cX l) (i : Nat) : (wi l i).out.length ≤ 7000000 ∧ (wi l i).l.length = 2 := by
 have h1 := uX _ (hz.take i)
 have h2 := (hz.take i).z
 have h3 := C0 l.length (byte 12)
 refine ⟨?_, rfl⟩
 unfold wi
 simp only [List.length_append, show (b6 0 5 (byte 9)).length = 1 by decide]; omega
theorem wi_e {l : List ak} (h : 0 < l.length) (hz : cX l) : (wi l l.length).fin = w0.ops (dx 5 l) := by
 have h1 := jW l
 have h2 := hz.z
 unfold dx
 rw [if_neg (by omega)]
 have e1 : ∀ r, CS.ops w0 (⟨91, 5, l.length, 12, 0, []⟩ :: r) = CS.ops (w0.list 5 l.length 12) r := fun r => rfl
 rw [e1]
 unfold w0
 rw [vF (by omega), oc, xR l _ _ hz.a (by omega)]
 unfold wi
 rw [List.take_length]; rfl
theorem w0_b {l : List ak} (hz : cX l) : (w0.ops (dx 5 l)).fin = ⟨eH l, [], 0⟩ ∧ (w0.ops (dx 5 l)).out.length ≤ 7000000 ∧ (w0.ops (dx 5 l)).l.length ≤ 10 := by
 have h1 := jW l
 have h2 := hz.z
 have e := yu hz.a (by omega)
 have e0 : CS.new.ops (fe l) = CS.ops w0 (dx 5 l ++ [⟨101, 0, 0, 0, 0, []⟩]) := rfl
 rw [e0, oc] at e
 refine ⟨e, ?_⟩
 by_cases h : l.length = 0
 . unfold dx; rw [if_pos h]; decide
 . rw [← wi_e (by omega) hz]
   have hb := (wi_b hz l.length).1
   have hf : (wi l l.length).fin = ⟨(wi l l.length).out, [⟨false, 5, 0, 0⟩], 0⟩ := by
    unfold wi
    rw [Int.sub_self]; rfl
   rw [hf]
   exact ⟨hb, by show 1 ≤ 10; decide⟩
def cV : List aU → Nat
 | [] => 0
 | o :: r => o.text.length + 40 + cV r
theorem y5 : ∀ a b : List aU, cV (a ++ b) = cV a + cV b
 | [], b => by simp [cV]
 | o :: a, b => by rw [List.cons_append, cV, cV, y5 a b]; omega
theorem DF : ∀ (a : List aU) (i : Nat), cV (a.take i) ≤ cV a
 | [], i => by simp
 | o :: a, 0 => Nat.zero_le _
 | o :: a, i + 1 => by rw [List.take_succ_cons, cV, cV]; have := DF a i; omega
structure kh (o : aU) : Prop where
 k : iQ o.kind
 n : -9223372036854775808 ≤ o.n ∧ o.n ≤ 9223372036854775807
 t : o.text.length ≤ 90000000
theorem op_fr (w : CS) (o : aU) (h : w.l.length ≤ 40) : (w.op o).l.length ≤ 40 := by
 have hm := fun id k => (fP w id k).2
 unfold CS.op CS.struct CS.list CS.fin CS.flag CS.hC CS.whole CS.put CS.begin
 repeat' split
 all_goals (try simp only [List.length_append, List.length_singleton, List.length_take, hm])
 all_goals omega
theorem BQ : ∀ (l : List aU) (w : CS), (∀ o ∈ l, kh o) → w.l.length ≤ 40 → (w.ops l).out.length ≤ w.out.length + cV l ∧ (w.ops l).l.length ≤ 40
 | [], w, _, h => ⟨Nat.le_refl _, h⟩
 | o :: l, w, ho, h => by
   have h1 := BP w o (ho o List.mem_cons_self).t (ho o List.mem_cons_self).n
   have h2 := BQ l (w.op o) (fun p hp => ho p (List.mem_cons_of_mem _ hp)) (op_fr w o h)
   refine ⟨?_, h2.2⟩
   have e : (w.ops (o :: l)).out.length ≤ _ := h2.1
   rw [cV]; omega
theorem KX {l : List aU} {i : Nat} (h : i < l.length) (w : CS) : w.ops (l.take (i + 1)) = (w.ops (l.take i)).op (l.getD i default) := by
 rw [List.take_add_one, List.getD_eq_getElem?_getD, List.getElem?_eq_getElem h, oc]; rfl
theorem aL_ok {a : ak} (h : ki a) : ∀ o ∈ aL a, kh o := fun o ho => by
 have hn := (ok_eq h.ok).2.1
 have hq := oH a.value.kind
 have hk := h.k
 have i0 : ((-9223372036854775808 : Int) ≤ 0 ∧ (0 : Int) ≤ 9223372036854775807) := by decide
 simp only [aL, cL, List.mem_cons, List.not_mem_nil, or_false] at ho
 rcases ho with rfl | rfl | rfl | rfl | rfl
 . exact ⟨by unfold iQ; dsimp only; decide, i0, Nat.zero_le _⟩
 . exact ⟨by unfold iQ; dsimp only; decide, i0, by dsimp only; omega⟩
 . exact ⟨by unfold iQ; dsimp only; decide, by dsimp only; omega, Nat.zero_le _⟩
 . refine ⟨?_, zS hn, Nat.le_trans (vb (n := 40000000) (by have := h.t; omega) h.x) (by decide)⟩
   unfold du iQ
   repeat' split
   all_goals dsimp only
   all_goals decide
 . exact ⟨by unfold iQ; dsimp only; decide, i0, Nat.zero_le _⟩
theorem E3 {l : List ak} (hz : cX l) : ∀ o ∈ fe l, kh o := fun o ho => by
 have h1 := jW l
 have h2 := hz.z
 have i0 : ((-9223372036854775808 : Int) ≤ 0 ∧ (0 : Int) ≤ 9223372036854775807) := by decide
 simp only [fe, dx, List.mem_cons, List.mem_append, List.not_mem_nil, or_false] at ho
 rcases ho with rfl | ho | rfl
 . exact ⟨by unfold iQ; dsimp only; decide, i0, Nat.zero_le _⟩
 . split at ho
   . cases ho
   . simp only [List.mem_cons, List.mem_append, List.not_mem_nil, or_false] at ho
     rcases ho with rfl | ho | rfl
     . exact ⟨by unfold iQ; dsimp only; decide, by dsimp only; omega, Nat.zero_le _⟩
     . obtain ⟨x, hx, ho⟩ := List.mem_flatten.1 ho
       obtain ⟨a, ha, rfl⟩ := List.mem_map.1 hx
       exact aL_ok (hz.a a ha) o ho
     . exact ⟨by unfold iQ; dsimp only; decide, i0, Nat.zero_le _⟩
 . exact ⟨by unfold iQ; dsimp only; decide, i0, Nat.zero_le _⟩
theorem wt_aL {a : ak} (h : ki a) : cV (aL a) ≤ 1600 * (a.key.length + a.value.size) := by
 have h1 := xU h.ok
 have h2 := size_eq a.value
 have h3 := vb (v := a.value) (tx := text a.value) (n := 120 * a.value.size) (by omega) h1
 simp only [aL, cL, cV, List.length_nil]
 omega
theorem DG : ∀ l : List ak, cX l → cV (l.map aL).flatten ≤ 1600 * bE l
 | [], _ => Nat.zero_le _
 | a :: l, h => by
   have hz := h.z
   rw [bE, lz] at hz
   have h1 := wt_aL (h.a a List.mem_cons_self)
   have h2 := DG l ⟨fun b hb => h.ok b (List.mem_cons_of_mem _ hb), by omega⟩
   rw [bE, lz, List.map_cons, List.flatten_cons, y5]; omega
theorem N6 {l : List ak} (hz : cX l) : cV (fe l) ≤ 7000000 := by
 have h1 := DG l hz
 have h2 := hz.z
 unfold fe dx
 split
 . simp only [List.nil_append, cV, List.length_nil]; omega
 . simp only [cV, y5, List.length_nil]; omega
def jQ (a : ak) : ak := if a.value.kind = 0 ∨ a.value.kind ≥ 6 then .mk a.key (.mk 1 (text a.value) 0 0 [] []) else a
theorem chk_0 {v : ae} (c : ff v 0 = 0) : v.kind ≤ 7 ∧ emp v = true ∧ ¬ (v.kind = 2 ∧ (v.num < 0 ∨ 1 < v.num)) := by
 rw [yL] at c
 generalize gV v.list (0 + 1) = x at c
 generalize eQ v.map none (0 + 1) = y at c
 generalize mZ v.text = z at c
 refine ⟨?_, ?_, ?_⟩
 . refine Int.not_lt.1 fun q => ?_
   simp [q] at c
 . by_cases q : emp v = true
   . exact q
   . simp [q] at c
     split at c
     . exact absurd c (by decide)
     . exact absurd c (by decide)
 . intro q
   have h7 : ¬ 7 < v.kind := by omega
   simp [q.1, q.2] at c
   split at c <;> exact absurd c (by decide)
theorem tg_pl {a : ak} (h : a.value.ok) (c : ff a.value 0 = 0) : (lL a).nd = jQ a := by
 obtain ⟨key, k, t, n, b, l, m⟩ := a
 have hk : 0 ≤ k ∧ k ≤ 255 := (ok_eq h).1
 have hb : 0 ≤ b ∧ b ≤ 18446744073709551615 := (ok_eq h).2.2.1
 obtain ⟨c1, he, c5⟩ := chk_0 c
 unfold emp at he
 obtain ⟨e1, e2, e3, e4, e5⟩ := of_decide_eq_true he
 have c1 : k ≤ 7 := c1
 have c5 : ¬ (k = 2 ∧ (n < 0 ∨ 1 < n)) := c5
 have e1 : k = 1 ∨ k = 5 ∨ t = [] := e1
 have e2 : k = 2 ∨ k = 3 ∨ n = 0 := e2
 have e3 : k = 4 ∨ b = 0 := e3
 have e4 : k = 6 ∨ l.length = 0 := e4
 have e5 : k = 7 ∨ m.length = 0 := e5
 clear c he h
 have hl : k ≠ 6 → l = [] := fun q => List.eq_nil_of_length_eq_zero (by omega)
 have hm : k ≠ 7 → m = [] := fun q => List.eq_nil_of_length_eq_zero (by omega)
 have ht : k ≠ 1 → k ≠ 5 → t = [] := fun q1 q2 => by
  rcases e1 with e | e | e
  . exact absurd e q1
  . exact absurd e q2
  . exact e
 have hn : k ≠ 2 → k ≠ 3 → n = 0 := fun q1 q2 => by omega
 have hb0 : k ≠ 4 → b = 0 := fun q => by omega
 rcases (show k = 0 ∨ k = 1 ∨ k = 2 ∨ k = 3 ∨ k = 4 ∨ k = 5 ∨ k = 6 ∨ k = 7 by omega) with rfl | rfl | rfl | rfl | rfl | rfl | rfl | rfl
 . rfl
 . cases hl (by decide); cases hm (by decide); cases hn (by decide) (by decide); cases hb0 (by decide); rfl
 . cases hl (by decide); cases hm (by decide); cases ht (by decide) (by decide); cases hb0 (by decide)
   rcases (show n = 0 ∨ n = 1 by omega) with rfl | rfl <;> rfl
 . cases hl (by decide); cases hm (by decide); cases ht (by decide) (by decide); cases hb0 (by decide); rfl
 . cases hl (by decide); cases hm (by decide); cases ht (by decide) (by decide); cases hn (by decide) (by decide)
   obtain ⟨b', rfl⟩ := Int.eq_ofNat_of_zero_le hb.1
   rfl
 . cases hl (by decide); cases hm (by decide); cases hn (by decide) (by decide); cases hb0 (by decide); rfl
 . rfl
 . rfl
theorem yJ : ∀ (l : List ak) (p : Option (List UInt8)), eQ l p 0 = 0 → ∀ a ∈ l, ff a.value 0 = 0
 | b :: l, p, h, a, ha => by
   rw [eQ] at h
   split at h
   . rename_i q; exact absurd h q
   rename_i q
   rcases List.mem_cons.1 ha with rfl | ha
   . rw [m6] at q
     split at q
     . rename_i q2; exact absurd (by simpa using q) q2
     split at q
     . exact absurd q (by decide)
     . simpa using q
   . exact yJ l _ h a ha
theorem E6 {l : List ak} (h : cX l) (c : eQ l none 0 = 0) : cU (fh ((l.map lL).map eR)) (l.map jQ) = true := by
 rw [yT, List.map_map, sJ]
 exact List.map_congr_left fun a ha => tg_pl (h.ok a ha) (yJ l none c a ha)
end Go.Proofs.YtipejldppicijaaGreatDoor
