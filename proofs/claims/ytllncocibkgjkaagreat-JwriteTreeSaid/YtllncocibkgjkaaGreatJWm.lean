/-
  A part of the proof.
-/
import Derived.Test.YtllncocibkgjkaaGreatPHex
import Derived.Test.YtllncocibkgjkaaGreatPQuote
set_option linter.unusedSimpArgs false
set_option linter.unusedVariables false
set_option maxHeartbeats 4000000
namespace Go.Proofs.YtllncocibkgjkaaGreat
open Go Go.VG
set_option maxRecDepth 100000
theorem ES (c : Nat) (hp : True) : OK 85 ([.list true c []]) ([]) (.buf 0) (some [.buf 1 0 []]) := by
 refine fq.args (ys := [.list true 0 []]) ?_ (iR.cons (Wk.nil (.inl rfl)) (iR.refl _))
 refine aq (C := cx []) (ar trivial) (fn := Tryz.f85) rfl rfl rfl rfl fun _ _ => ?_
 repeat' ((conv => whnf); apply ak)
 all_goals try conv => whnf
 all_goals try (refine ab.mk ?_; try dsimp only)
 all_goals first | refine stay ?_ | trivial | skip
 refine a8.mk [] ?_ <;> (repeat' first | trivial)
theorem ET (l : List V) (hp : l.length ≤ 4000000000) : OK 85 ([.buf 0]) ([.buf 1 0 l]) (.buf 0) (some [.buf 1 0 l]) := by
 refine aq (C := cx []) (ar trivial) (fn := Tryz.f85) rfl rfl rfl rfl fun hw hs => ?_
 repeat' ((conv => whnf); apply ak)
 all_goals try conv => whnf
 all_goals try (refine ab.mk ?_; try dsimp only)
 all_goals first | refine stay ?_ | (simp (discharger := omega) only [wR]; omega) | skip
 refine a8.mk [.swap 0 1] ?_ <;> (repeat' first | trivial | apply aj | apply aM)
 simp
def sI : Sm := fun args σ => match args, σ with
 | [.list true c []], [] => some (True, .buf 0, some [.buf 1 0 []])
 | [.buf 0], [.buf 1 0 l] => some (l.length ≤ 4000000000, .buf 0, some [.buf 1 0 l])
 | _, _ => none
theorem zY : ay 85 sI := by
 intro args sg pre x r he hp
 unfold sI at he
 split at he <;> cases he
 . exact ES (hp := hp) ..
 . exact ET (hp := hp) ..
theorem L3 (a : Nat) (d : UInt8) (ds : List UInt8) : (List.replicate (a + 1) 0 ++ ds).set a d = List.replicate a 0 ++ d :: ds := by
 rw [List.replicate_succ', List.append_assoc, List.set_append_right _ _ (by simp)]
 simp
theorem EU (l : List V) (hl : l.length ≤ 4000000000) (n : Nat) (hn : n < 18446744073709551616) : OK 86 [.buf 0, .int .u64 n] [.buf 1 0 l] (.buf 0) (some [.buf 1 0 (l ++ bl (dec n))]) := by
 refine aq (C := cx []) (ar trivial) (fn := Tryz.f86) rfl rfl rfl rfl fun _ _ => ?_
 have h20 := uc hn
 refine bn.mk (Nat × Nat × List UInt8) (fun | (i, u, ds) => i + ds.length = 20 ∧ dec n = dec u ++ ds ∧ u ≤ n)
  (fun | (i, u, ds) => ⟨23, [(0, .buf 0), (1, .int .u64 u), (5, .ptr 1 0), (6, .int .i64 i)], [.buf 1 0 l, .cells (bl (List.replicate i 0 ++ ds))], []⟩)
  (fun x => x.2.1) [] (20, n, []) (by simp) ?_ (fun ⟨i, u, ds⟩ ⟨hi, hd, hu⟩ _ _ => ?_)
 . refine Go.VG.Sub.mk rfl ?_ ?_ ?_ ?_ <;> (repeat' first | trivial)
 have hlen : (dec n).length = (dec u).length + ds.length := by rw [hd]; simp
 have hp := DF u
 have hset : (bl (List.replicate i 0 ++ ds)).set (0 + (IntKind.i64.wrap ((i : Int) - 1)).toNat * 1) (V.int .u8 (IntKind.u8.wrap (48 + IntKind.u8.wrap ((u : Int).tmod 10)))) = bl (List.replicate (i - 1) 0 ++ digit (u % 10) :: ds) := by
  rw [show (0 + (IntKind.i64.wrap ((i : Int) - 1)).toNat * 1) = i - 1 by (simp (discharger := omega) only [wR]; omega), show IntKind.u8.wrap (48 + IntKind.u8.wrap ((u : Int).tmod 10)) = ((digit (u % 10)).toNat : Int) by
   simp only [digit, UInt8.toNat_ofNat']; (simp (discharger := omega) only [wR]; omega)]
  rw [Di, ← L3 (i - 1), show i - 1 + 1 = i by omega]
 have hq : IntKind.u64.wrap ((u : Int).tdiv 10) = ((u / 10 : Nat) : Int) := by (simp (discharger := omega) only [wR]; omega)
 repeat' ((conv => whnf); first | apply ak | apply jv | (apply al <;> intro h) | apply goN | apply goO | with_reducible refine goP ?_)
 all_goals try conv => whnf
 all_goals try (refine ab.mk ?_; try dsimp only)
 all_goals (try rw [hset])
 all_goals (try rw [hq])
 all_goals first | refine stay ?_ | trivial | (simp (discharger := omega) only [wR]; omega) | (simp only [cK]; omega) | skip
 . rw [fv, List.length_append, List.length_replicate]; (simp (discharger := omega) only [wR]; omega)
 . rw [JN, Jh]; rfl
 . rw [fv]; simp; omega
 . refine a8.mk [] ?_ <;> (repeat' first | trivial | apply aj | apply aM)
   refine congrArg _ ?_
   rw [List.drop_zero, List.take_of_length_le (by rw [fv]; simp; omega), Dh, show (IntKind.i64.wrap ((i : Int) - 1)).toNat = i - 1 by (simp (discharger := omega) only [wR]; omega), List.drop_left' (by simp), hd, dec_lt (n := u) (by omega), Nat.mod_eq_of_lt (by omega)]
   rfl
 . refine ⟨[], (i - 1, u / 10, digit (u % 10) :: ds), ⟨by simp; omega, by rw [hd, yB (n := u) (by omega)]; simp, by omega⟩, ?_, by show u / 10 < u; omega⟩
   refine Go.VG.Sub.mk rfl ?_ ?_ ?_ ?_ <;> (repeat' first | trivial | exact eqS _ _ | apply aj | apply aR)
   (simp (discharger := omega) only [wR]; omega)
def sJ : Sm := fun args σ => match args, σ with
 | [.buf 0, .int .u64 q], [.buf 1 0 l] => some ((0 ≤ q ∧ q ≤ 18446744073709551615) ∧ l.length ≤ 4000000000, .buf 0, some [.buf 1 0 (l ++ bl (dec q.toNat))])
 | _, _ => none
theorem zZ : ay 86 sJ := by
 intro args sg pre x r he hp
 unfold sJ at he
 split at he <;> cases he
 obtain ⟨⟨h0, h1⟩, h2⟩ := hp
 obtain ⟨m, rfl⟩ := Int.eq_ofNat_of_zero_le h0
 exact EU _ h2 m (by omega)
theorem EV (c : Nat) (q : Int) (hp : -9223372036854775808 ≤ q ∧ q ≤ 9223372036854775807) : OK 61 ([.list true c [], .int .i64 q]) ([]) (.buf 0) (some [.buf 1 0 (bl (gy q))]) := by
 refine fq.args (ys := [.list true 0 [], .int .i64 q]) ?_ (iR.cons (Wk.nil (.inl rfl)) (iR.refl _))
 refine aq (C := cx [(85, sI), (86, sJ)]) (ar ⟨zY, zZ, trivial⟩) (fn := Tryz.f61) rfl rfl rfl rfl fun _ _ => ?_
 repeat' ((conv => whnf); first | apply ak | (apply al <;> intro h))
 all_goals try conv => whnf
 all_goals try (refine ab.mk ?_; try dsimp only)
 all_goals first | refine stay ?_ | trivial | (simp (discharger := omega) [-List.getD_eq_getElem?_getD, wR] <;> omega) | skip
 . refine a8.mk [] ?_ <;> (repeat' first | trivial | apply aj | apply aM)
   unfold gy
   rw [if_pos (by assumption), show (IntKind.u64.wrap (0 - IntKind.u64.wrap q)).toNat = q.natAbs by (simp (discharger := omega) only [wR]; omega)]
   rfl
 . refine a8.mk [] ?_ <;> (repeat' first | trivial | apply aj | apply aM)
   unfold gy
   rw [if_neg (by assumption), show (IntKind.u64.wrap q).toNat = q.toNat by (simp (discharger := omega) only [wR]; omega)]
   rfl
theorem EW (q : Int) (l : List V) (hp : (-9223372036854775808 ≤ q ∧ q ≤ 9223372036854775807) ∧ l.length ≤ 3000000000) : OK 61 ([.buf 0, .int .i64 q]) ([.buf 1 0 l]) (.buf 0) (some [.buf 1 0 (l ++ bl (gy q))]) := by
 refine aq (C := cx [(85, sI), (86, sJ)]) (ar ⟨zY, zZ, trivial⟩) (fn := Tryz.f61) rfl rfl rfl rfl fun hw hs => ?_
 repeat' ((conv => whnf); first | apply ak | (apply al <;> intro h))
 all_goals try conv => whnf
 all_goals try (refine ab.mk ?_; try dsimp only)
 all_goals first | refine stay ?_ | omega | (simp (discharger := omega) only [wR]; omega) | (simp only [cK]; omega) | (simp (discharger := omega) [-List.getD_eq_getElem?_getD, wR] <;> omega) | skip
 . refine a8.mk [] ?_ <;> (repeat' first | trivial | apply aj | apply aM)
   unfold gy
   rw [if_pos (by omega), show (IntKind.u64.wrap (0 - IntKind.u64.wrap q)).toNat = q.natAbs by (simp (discharger := omega) only [wR]; omega)]
   rw [List.append_assoc]; rfl
 . refine a8.mk [] ?_ <;> (repeat' first | trivial | apply aj | apply aM)
   unfold gy
   rw [if_neg (by omega), show (IntKind.u64.wrap q).toNat = q.toNat by (simp (discharger := omega) only [wR]; omega)]
def wi : Sm := fun args σ => match args, σ with
 | [.list true c [], .int .i64 q], [] => some (-9223372036854775808 ≤ q ∧ q ≤ 9223372036854775807, .buf 0, some [.buf 1 0 (bl (gy q))])
 | [.buf 0, .int .i64 q], [.buf 1 0 l] => some ((-9223372036854775808 ≤ q ∧ q ≤ 9223372036854775807) ∧ l.length ≤ 3000000000, .buf 0, some [.buf 1 0 (l ++ bl (gy q))])
 | _, _ => none
theorem Hp : ay 61 wi := by
 intro args sg pre x r he hp
 unfold wi at he
 split at he <;> cases he
 . exact EV (hp := hp) ..
 . exact EW (hp := hp) ..
end Go.Proofs.YtllncocibkgjkaaGreat
namespace Go.Proofs.YtllncocibkgjkaaGreat
open Go Go.VG
set_option maxRecDepth 100000
structure Fr where
 e : UInt8
 b : Bool
 k : Bool
instance : Inhabited Fr := ⟨⟨0, false, false⟩⟩
structure WS where
 out : List UInt8
 l : List Fr
 whole : Bool
 code : Int
structure cD where
 kind : Int
 text : List UInt8
 n : Int
instance : Inhabited cD := ⟨⟨0, [], 0⟩⟩
abbrev ef (f : Fr) : V := .agg [.int .u8 f.e.toNat, .bool f.b, .bool f.k]
abbrev eo (o : cD) : V := .agg [.int .u8 o.kind, .str o.text, .int .i64 o.n]
abbrev eW (w : WS) : List O := [.cells [.buf 1, .buf 2, .bool w.whole, .int .i64 w.code, .func (.func 38) [] []], .buf 1 0 (bl w.out), .buf 3 0 (w.l.map ef)]
def ub : List V → List UInt8
 | [] => []
 | .int _ n :: r => byte n :: ub r
 | _ :: r => 0 :: ub r
@[simp] theorem ub_bl (s : List UInt8) : ub (bl s) = s := by
 induction s with
 | nil => rfl
 | cons b s ih => simp only [bl, bv, ub, ih, c5]
def oW : List V → List Fr
 | [] => []
 | .agg [.int _ n, .bool b, .bool k] :: r => ⟨byte n, b, k⟩ :: oW r
 | _ :: r => default :: oW r
@[simp] theorem ufr_map (l : List Fr) : oW (l.map ef) = l := by
 induction l with
 | nil => rfl
 | cons b s ih => simp only [List.map_cons, oW, ih, c5]
def bq (o l : List V) (wh : Bool) (c : Int) : WS := ⟨ub o, oW l, wh, c⟩
@[simp] theorem bR (w : WS) : bq (bl w.out) (w.l.map ef) w.whole w.code = w := by simp [bq]
def okW (o l : List V) : Prop := o = bl (ub o) ∧ l = (oW l).map ef ∧ o.length ≤ 2000000000 ∧ l.length ≤ 1000
theorem ie {s : List UInt8} {l : List Fr} (h : s.length ≤ 2000000000) (k : l.length ≤ 1000) : okW (bl s) (l.map ef) := by
 refine ⟨by simp, by simp, by simpa [fv] using h, by simpa using k⟩
theorem iO {o l : List V} {h : Bool} {c : Int} (k : okW o l) : [O.cells [.buf 1, .buf 2, .bool h, .int .i64 c, .func (.func 38) [] []], .buf 1 0 o, .buf 3 0 l] = eW (bq o l h c) := by
 unfold eW bq; rw [← k.1, ← k.2.1]
theorem viewO {k : Int} {t : List UInt8} {n : Int} (_ : True) : V.agg [.int .u8 k, .str t, .int .i64 n] = eo ⟨k, t, n⟩ := rfl
def WS.fail (w : WS) (c : Int) : WS := if w.code = 0 then { w with code := c } else w
def WS.top (w : WS) : Fr := w.l.getD (w.l.length - 1) default
def WS.fD (w : WS) (f : Fr) : WS := { w with l := w.l.set (w.l.length - 1) f }
def WS.may (w : WS) : WS × Bool :=
 if w.code ≠ 0 then (w, false)
 else if w.l.length = 0 then (if w.whole = true then (w.fail 12, false) else ({ w with whole := true }, true))
 else if w.top.e.toNat = 125 then (if w.top.k = true then (w.fD { w.top with k := false }, true) else (w.fail 12, false))
 else ({ w.fD { w.top with b := true } with out := if w.top.b = true then w.out ++ [44] else w.out }, true)
def WS.put (w : WS) (s : List UInt8) : WS := if w.may.2 = true then { w.may.1 with out := w.may.1.out ++ s } else w.may.1
def WS.begin (w : WS) (a e : UInt8) : WS :=
 if w.code ≠ 0 then w
 else if w.l.length ≥ 32 then w.fail 33
 else if w.may.2 = true then { w.may.1 with out := w.may.1.out ++ [a], l := w.may.1.l ++ [⟨e, false, false⟩] } else w.may.1
def WS.fin (w : WS) : WS :=
 if w.code ≠ 0 then w
 else if w.l.length = 0 ∨ w.top.k = true then w.fail 12
 else { w with out := w.out ++ [w.top.e], l := w.l.take (w.l.length - 1) }
def WS.key (w : WS) (s : List UInt8) : WS :=
 if w.code ≠ 0 then w
 else if w.l.length = 0 ∨ w.top.e.toNat ≠ 125 ∨ w.top.k = true then w.fail 12
 else { w.fD { w.top with b := true, k := true } with out := (if w.top.b = true then w.out ++ [44] else w.out) ++ (quote s ++ [58]) }
def jQ (b : Bool) : List UInt8 := if b = true then [116, 114, 117, 101] else [102, 97, 108, 115, 101]
def WS.op (w : WS) (o : cD) : WS :=
 if o.kind = 123 then w.begin 123 125
 else if o.kind = 91 then w.begin 91 93
 else if o.kind = 101 then w.fin
 else if o.kind = 107 then w.key o.text
 else if o.kind = 115 then w.put (quote o.text)
 else if o.kind = 110 then w.put (gy o.n)
 else if o.kind = 116 ∨ o.kind = 102 then w.put (jQ (o.kind == 116))
 else w.put [110, 117, 108, 108]
def WS.done (w : WS) : List UInt8 × Int :=
 if w.code ≠ 0 then ([], w.code) else if w.l.length > 0 ∨ w.whole = false then ([], 1) else (w.out, 0)
def WS.new : WS := ⟨[], [], false, 0⟩
theorem fA (w : WS) : w.may.1.out.length ≤ w.out.length + 1 ∧ w.may.1.l.length = w.l.length := by
 unfold WS.may WS.fail WS.fD
 repeat' split
 all_goals (constructor <;> simp)
theorem Jk (w : WS) (o : cD) (h : -9223372036854775808 ≤ o.n ∧ o.n ≤ 9223372036854775807) : (w.op o).out.length ≤ w.out.length + 6 * o.text.length + 30 ∧ (w.op o).l.length ≤ w.l.length + 1 := by
 have h1 := fA w
 have h2 := sn o.text
 have h3 := DE h.1 h.2
 have h4 : (jQ (o.kind == 116)).length ≤ 5 := by unfold jQ; split <;> simp
 unfold WS.op WS.begin WS.fin WS.key WS.put WS.fail WS.fD
 repeat' split
 all_goals (constructor <;> (try simp only [List.length_append, List.length_cons, List.length_nil, List.length_set, List.length_take]) <;> omega)
end Go.Proofs.YtllncocibkgjkaaGreat
