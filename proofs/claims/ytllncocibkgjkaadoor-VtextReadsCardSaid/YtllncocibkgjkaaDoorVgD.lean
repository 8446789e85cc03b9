/-
  A part of the proof.
-/
import Derived.Test.YtllncocibkgjkaaDoorVgA
import Derived.WideKeyMaps
import Derived.WideKeyEntry
set_option linter.unusedSimpArgs false
set_option linter.unusedVariables false
namespace Go.VG
open Go

inductive Ex where
 | norm | exit (id : Nat) | ret | goto (l : Nat) | pan (v : Value)
def m9 (f : AS → Prop) (K : Ex → AS → Prop) (e : Ex) (s : AS) : Prop := match e with
 | .norm => f s
 | e => K e s

def AS.put (s : AS) (d : Option Nat) (v : V) : AS := ⟨s.nt, match d with
 | some d => (d, v) :: s.tm
 | none => s.tm, s.sg, s.kl⟩

def AS.back (s : AS) (d : Option Nat) (x : V) (sg : List O) (ks : List Nat) : AS :=
 ⟨s.nt, match d with
  | some d => (d, x) :: gY ks s.tm
  | none => gY ks s.tm, sg, dQ ks s.kl⟩

def kp (s : AS) (d : Option Nat) (x : V) (sg : List O) (ks : List Nat) (K : AS → Prop) : Prop := match s, d with
 | ⟨nt, tm, _, kl⟩, some d => jb x fun x => kE (gY ks tm) fun tm => iy sg fun sg => gV (dQ ks kl) fun kl => K ⟨nt, (d, x) :: tm, sg, kl⟩
 | ⟨nt, tm, _, kl⟩, none => kE (gY ks tm) fun tm => iy sg fun sg => gV (dQ ks kl) fun kl => K ⟨nt, tm, sg, kl⟩
@[simp] theorem CR (s : AS) (d : Option Nat) (x : V) (sg : List O) (ks : List Nat) (K : AS → Prop) : kp s d x sg ks K = K (s.back d x sg ks) := by
 obtain ⟨nt, tm, sg', kl⟩ := s
 cases d <;> simp [kp, AS.back, lN]

def di (s : AS) : Option Nat → Bool
 | some d => Nat.blt d s.nt
 | none => true

def cu : List Oper → Nat → Option Nat
 | [], _ => none
 | o :: _, 0 => o.dst
 | _ :: os, j + 1 => cu os j

def jx (P : Program) (f : FuncId) : Prop := ∃ fn, P.funcs[f]? = some fn ∧ (fn.name == "runtime.NumGoroutine") = false ∧ fn.body.isNone = false

def aP (gl : Nat → Option (List V)) (st : St) : Prop := ∀ b cs, gl b = some cs → ∀ g : ae, ∃ vs, aq st g cs 0 vs ∧ ∀ j, j < vs.length → st b j = vs[j]?

structure iP (E : Env) (st : St) (g : ae) (n : Nat) (st' : St) (g' : ae) (n' : Nat) (ks : List Nat) : Prop where
 mono : ∀ b o v, st b o = some v → st' b o = some v
 ba : ∀ i, i < n → aC i ks = false → g' i = g i
 len : n ≤ n'

def xt (C : Ctx) (f : FuncId) (args : List V) (sg : List O) (K : V → List O → List Nat → Prop) : Prop :=
 jx C.P f ∧ ∀ (E : Env) (st : St) (g : ae) (w : World) (vs : List Value), ay E st g sg w → aP C.gl st → aq st g args sg.length vs →
  Calls C.P f vs.toArray w fun e w' => ∃ v x sg' ks st' g', e = .returned v ∧ ay E st' g' sg' w' ∧ VR st' g' x sg'.length v ∧ iP E st g sg.length st' g' sg'.length ks ∧ K x sg' ks

def yieldOf (C : Ctx) (s : AS) (c : Call) : Option (Nat × List V) :=
 match c.callee with
 | .value x => match s.ev C x with
   | .func (.yield l) [] [] => some (l, s.bS C c.args.toList)
   | _ => none
 | _ => none
def su    (C : Ctx) (s : AS) (x : Operand) (d : Option Nat) (K : Ef → AS → Prop) : Prop := match s.ev C x with
 | .ptr k 0 => match au s.sg k with
   | .miter (.map i) bs ck left _ => match au s.sg i with
     | .map _ _ _ bs' ck' => (bs' = bs ∧ ck' = ck) ∧ (left = [] → dR s d ⟨.tuple [.bool false], [], [], [], [k, i]⟩ fun s' => K ⟨.tuple [.bool false], [], [], [], [k, i]⟩ s') ∧
      (∀ j, j ∈ left → dR s d ⟨.tuple [.bool true, .undef, .undef], [], [(k, .miter (.map i) bs ck (left.erase j) j)], [], [k, i]⟩ fun s' => K ⟨.tuple [.bool true, .undef, .undef], [], [(k, .miter (.map i) bs ck (left.erase j) j)], [], [k, i]⟩ s')
     | _ => False
   | _ => False
 | _ => False
def n6 (s : AS) (e : Ef) (X : Value → AS → Prop) : Prop := gU e fun e => ff (jk e.v) fun u => dR s none ⟨.undef, e.ks, e.up, e.nw, e.rd⟩ (X u)
def yP (C : Ctx) (ops : List Oper) (o : Oper) (s : AS) (R : Ex → AS → Prop) : Prop :=
 ig (di s o.dst) (match o.guard with
 | none => go s
 | some (j, want) => match cu ops j with
   | none => False
   | some t => match lk s.tm t with
     | .bool b => c9 b (cond want (run' (.bool true) t) (skip (.bool true) t)) (cond want (skip (.bool false) t) (run' (.bool false) t))
     | .tuple [] => skip (.tuple []) t
     | _ => False)
where
 go (s : AS) : Prop := match o.op with
   | .call c => match target C s c with
     | some (f, args) => match eN C s.sg f args with
       | some (pre, e) => pre ∧ gU e fun e => dR s o.dst e (R .norm)
       | none => match eN C.hH s.sg f args, eN C.jl s.sg f args with
         | some (p, e1), some (q, e2) => (p ∨ q) ∧ (p → n6 s e1 fun u => R (.pan u)) ∧ (q → gU e2 fun e => dR s o.dst e (R .norm))
         | _, _ => xt C f args s.sg fun x sg ks => kp s o.dst x sg ks (R .norm)
     | none => match yieldOf C s c with
       | some (l, args) => match C.yd l args s.sg s.kl with
         | some (pre, x, sg', ks) => pre ∧ kp s o.dst x sg' ks (R .norm)
         | none => False
       | none => cw C s o fun e => dR s o.dst e (R .norm)
   | .next x false => su C s x o.dst fun _ s' => R .norm s'
   | .panic x => ff (jk (s.ev C x)) fun u => R (.pan u) s
   | _ => cw C s o fun e => dR s o.dst e (R .norm)
 run' (b : V) (t : Nat) : Prop := dR s (some t) (pe b) go
 skip (b : V) (t : Nat) : Prop := dR s (some t) (pe b) fun s => dR s o.dst (pe (.tuple [])) (R .norm)

def sk (C : Ctx) (ops : List Oper) (o : Oper) (rest : List Oper) : Option (Nat × Nat) := match o.op, o.dst, rest with
  | .buildSlice t _ _, some d, o2 :: _ => match o2.op, o2.dst, (C.ti t).k with
    | .convert a b (.tmp d'), some d2, .slice e => match (C.ti e).k with
      | .int .u8 => cond (Nat.beq a t && Nat.beq b t && Nat.beq d d' && !C.lits d) (match o.guard, o2.guard with
        | none, none => some (d, d2)
        | some (j, x), some (j', x') => match cu ops j with
          | some u => cond (Nat.beq j j' && Bool.and (x == x') (!Nat.beq u d)) (some (d, d2)) none
          | none => none
        | _, _ => none) none
      | _ => none
    | _, _, _ => none
  | _, _, _ => none
def gm (s : AS) (p : Option (Nat × Nat)) (K : Bool → AS → Prop) : Prop := match p with
 | none => K false s
 | some (d, d2) => ig (Nat.blt d2 s.nt) (jb (lk s.tm d) fun x => K true (s.put (some d2) x))

def eu (C : Ctx) (ops : List Oper) : Bool → List Oper → AS → (Ex → AS → Prop) → Prop
 | _, [], s, K => K .norm s
 | true, _ :: rest, s, K => eu C ops false rest s K
 | false, o :: rest, s, K => yP C ops o s (m9 (fun s' => gm s' (sk C ops o rest) fun b s'' => eu C ops b rest s'' K) K)

def fz (C : Ctx) (ops : List Oper) (o : Oper) (s : AS) (K : Ef → AS → Prop) (U : AS → V → List O → List Nat → Prop) (X : Value → AS → Prop) : Prop :=
 ig (di s o.dst) (match o.guard with
 | none => run
 | some (j, want) => match cu ops j with
   | none => False
   | some t => match lk s.tm t with
     | .bool b => c9 b (cond want (run' (.bool true) t) (skip (.bool true) t)) (cond want (skip (.bool false) t) (run' (.bool false) t))
     | .tuple [] => skip (.tuple []) t
     | _ => False)
where
 go (s : AS) : Prop := match o.op with
   | .call c => match target C s c with
     | some (f, args) => match eN C s.sg f args with
       | some (pre, e) => pre ∧ gU e fun e => dR s o.dst e fun s' => K e s'
       | none => match eN C.hH s.sg f args, eN C.jl s.sg f args with
         | some (p, e1), some (q, e2) => (p ∨ q) ∧ (p → n6 s e1 X) ∧ (q → gU e2 fun e => dR s o.dst e fun s' => K e s')
         | _, _ => xt C f args s.sg (U s)
     | none => match yieldOf C s c with
       | some (l, args) => match C.yd l args s.sg s.kl with
         | some (pre, x, sg', ks) => pre ∧ U s x sg' ks
         | none => False
       | none => cw C s o fun e => dR s o.dst e fun s' => K e s'
   | .next x false => su C s x o.dst K
   | .panic x => ff (jk (s.ev C x)) fun u => X u s
   | _ => cw C s o fun e => dR s o.dst e fun s' => K e s'
 run : Prop := go s
 run' (b : V) (t : Nat) : Prop := dR s (some t) (pe b) fun s => go s
 skip (b : V) (t : Nat) : Prop := dR s (some t) (pe b) fun s => dR s o.dst (pe (.tuple [])) fun s' => K (pe (.tuple [])) s'

theorem Eh (C : Ctx) (ops : List Oper) (o : Oper) (s : AS) (f : AS → Prop) (K : Ex → AS → Prop) : yP C ops o s (m9 f K) = fz C ops o s (fun _ s' => f s') (fun s x sg ks => kp s o.dst x sg ks f) (fun u s' => K (.pan u) s') := rfl

def kR : Option Operand → List Operand
 | some x => [x]
 | none => []
def qq : List (Nat × Operand) → List Operand
 | [] => []
 | (_, x) :: r => x :: qq r
def ie : Op → List Operand
 | .move x | .assign x | .box _ x | .load _ x | .nilCheck x | .unOp _ _ x | .convert _ _ x | .makeInterface _ x | .fieldAddr _ x _ | .field _ x _ | .range _ x | .next x _ | .typeAssert x _ _ _ | .extract x _ => [x]
 | .pick c a b => [c, a, b]
 | .makeMap _ r => kR r
 | .lookup _ a b _ | .mapEntry _ a b => [a, b]
 | .mapUpdate _ a b c | .entryStore _ a b c => [a, b, c]
 | .entry x => [x]
 | .build _ ps | .buildSlice _ _ ps => qq ps.toList
 | .store _ a v | .binOp _ _ a v _ | .makeSlice _ a v | .indexAddr _ a v | .index _ a v => [a, v]
 | .makeFunc _ a b => a.toList ++ b.toList
 | .slice _ x lo hi mx => x :: (kR lo ++ (kR hi ++ kR mx))
 | .call c => match c.callee with
   | .value f => f :: c.args.toList
   | .invoke r _ => r :: c.args.toList
   | .builtin _ => c.args.toList
 | _ => []
def tmpsOf : List Operand → List Nat
 | [] => []
 | .tmp t :: r => t :: tmpsOf r
 | _ :: r => tmpsOf r
def oh (ops : List Oper) : Option (Nat × Bool) → List Nat
 | none => []
 | some (j, _) => match cu ops j with
   | some t => [t]
   | none => []
def looks (ops : List Oper) (o : Oper) : List Nat := tmpsOf (ie o.op) ++ oh ops o.guard

mutual
def V.free (ks : List Nat) : V → Bool
 | .ptr j _ | .bptr j _ _ | .buf j | .map j => !aC j ks
 | .agg cs | .tuple cs => V.jU ks cs
 | .iface _ x => V.free ks x
 | .func _ fs cs => V.jU ks fs && V.jU ks cs
 | _ => true
def V.jU (ks : List Nat) : List V → Bool
 | [] => true
 | c :: cs => V.free ks c && V.jU ks cs
end
mutual
def V.kY : V → Bool
 | .undef => false
 | .agg cs | .tuple cs => V.kf cs
 | .iface _ x => V.kY x
 | .func _ fs cs => V.kf fs && V.kf cs
 | _ => true
def V.kf : List V → Bool
 | [] => true
 | c :: cs => V.kY c && V.kf cs
end
def lQ (ks : List Nat) : List O → Bool
 | [] => true
 | .cells cs :: os => V.jU ks cs && lQ ks os
 | .miter m _ _ _ _ :: os => V.free ks m && lQ ks os
 | _ :: os => lQ ks os
def mc : List O → Bool
 | [] => true
 | .cells cs :: os => V.kf cs && mc os
 | .miter m _ _ _ _ :: os => V.kY m && mc os
 | .dead :: _ => false
 | _ :: os => mc os
def je (sg : List O) : List Nat → List O
 | [] => []
 | i :: is => au sg i :: je sg is

structure Rc where
 d : Option Nat
 us : List Nat
 anc : List Nat
 e : Ef
 n : Nat
 ov : List V
 oo : List O
 lu : Nat × List Nat

def quiet (e : Ef) : Bool := match e with
 | ⟨_, [], [], [], _⟩ => true
 | _ => false
def pF (d : Option Nat) (us : List Nat) : Bool := match d with
 | some d => !aC d us
 | none => true
def yz : Option Nat → Option Nat → Bool
 | some a, some b => !Nat.beq a b
 | _, _ => true
def pj : List (Nat × O) → List Nat → Bool
 | [], _ => true
 | (i, _) :: r, rd => !aC i rd && pj r rd
def ph : List Nat → Nat → Bool
 | [], _ => true
 | i :: is, n => Nat.blt i n && ph is n
def ka (o : Oper) : Nat × List Nat := match o.guard, o.op with
 | none, .lookup t (.tmp m) (.tmp x) false => (1, [t, m, x])
 | none, .mapEntry t (.tmp m) (.tmp x) => (2, [t, m, x])
 | _, _ => (0, [])
def rI : List Nat → List Nat → Bool
 | [], [] => true
 | a :: r, b :: q => Nat.beq a b && rI r q
 | _, _ => false
def qp (j i : Rc) : Bool := Nat.beq j.lu.1 1 && (Nat.beq i.lu.1 2 && rI j.lu.2 i.lu.2)
def indep (j i : Rc) : Bool :=
 pF j.d i.us && pF i.d j.us && yz i.d j.d && (qp j i ||
 match quiet j.e, quiet i.e with
  | true, true => true
  | true, false => V.jU i.e.ks j.ov && lQ i.e.ks j.oo && V.free i.e.ks j.e.v && pj i.e.up j.e.rd && ph j.e.rd i.n
  | false, true => V.kf i.ov && mc i.oo && V.free j.e.ks i.e.v && pj j.e.up i.e.rd && ph i.e.rd j.n
  | false, false => false)
def mP (i : Rc) : List Rc → Nat → Bool
 | [], _ => true
 | j :: js, k => (aC k i.anc || indep j i) && mP i js (k + 1)

def dV : Ground → Bool
 | .textOnly _ | .gcOnly _ => false
 | _ => true
def lg : List Rc → Nat → List Nat
 | [], _ => []
 | r :: _, 0 => r.anc
 | _ :: rs, j + 1 => lg rs j
def nA (bF : List Rc) : List Edge → List Nat → List Nat
 | [], acc => acc
 | ⟨on, gr⟩ :: es, acc => cond (dV gr) (mN (dQ (on :: lg bF on) acc) fun acc => nA bF es acc) (nA bF es acc)
def ky (i : Nat) : List Edge → Bool
 | [] => true
 | ⟨on, gr⟩ :: es => (Nat.blt on i || !dV gr) && ky i es

def stepT (C : Ctx) (ops : List Oper) (s : AS) (o : Oper) : Tr Ef := match o.guard with
 | none => cw C s o
 | some (j, want) => match cu ops j with
   | none => fail
   | some t => match lk s.tm t with
     | .bool b => cond want (jB b (cw C s o) (ret (pe (.tuple [])))) (jB b (ret (pe (.tuple []))) (cw C s o))
     | .tuple [] => ret (pe (.tuple []))
     | _ => fail

def hZ (C : Ctx) (ops : List Oper) (bF : List Rc) (s : AS) (o : Oper) (e : Ef) : Rc :=
 ⟨o.dst, looks ops o, nA bF o.after.toList [], e, s.sg.length, s.bS C (ie o.op), je s.sg e.rd, ka o⟩
def rO (r : Rc) (K : Rc → Prop) : Prop := match r with
 | ⟨d, us, anc, e, n, ov, oo, lu⟩ => gV us fun us => gV anc fun anc => gU e fun e => cI ov fun ov => iy oo fun oo => K ⟨d, us, anc, e, n, ov, oo, lu⟩
@[simp] theorem uv (r : Rc) (K : Rc → Prop) : rO r K = K r := by cases r; simp [rO, jc]

def nP (C : Ctx) (ops : List Oper) : List Oper → Nat → List Rc → AS → (AS → Prop) → Prop
 | [], _, _, s, K => K s
 | o :: rest, i, bF, s, K => ig (di s o.dst && ky i o.after.toList) (stepT C ops s o fun e =>
  gU e fun e => rO (hZ C ops bF s o e) fun r => ig (mP r bF 0) (gV (bF ++ [r]) fun bF => dR s o.dst e fun s' => nP C ops rest (i + 1) bF s' K))

def qe (s : AS) (t : Nat) (b : Bool) (k : AS → Prop) : Prop := match s with
 | ⟨nt, tm, sg, kl⟩ => k ⟨nt, (t, .bool b) :: tm, sg, kl⟩
def tc    (C : Ctx) (ops : List Oper) (s : AS) (o : Oper) (K : Ef → AS → Prop) : Prop := match o.guard with
 | none => cw C s o fun e => K e s
 | some (j, want) => match cu ops j with
   | none => False
   | some t => match lk s.tm t with
     | .bool b => cond want (c9 b (qe s t true fun s => cw C s o fun e => K e s) (qe s t false fun s => K (pe (.tuple [])) s))
      (c9 b (qe s t true fun s => K (pe (.tuple [])) s) (qe s t false fun s => cw C s o fun e => K e s))
     | .tuple [] => K (pe (.tuple [])) s
     | _ => False
def jR (C : Ctx) (ops : List Oper) : List Oper → Nat → List Rc → AS → (AS → Prop) → Prop
 | [], _, _, s, K => K s
 | o :: rest, i, bF, s, K => ig (di s o.dst && ky i o.after.toList) (tc C ops s o fun e s =>
  gU e fun e => rO (hZ C ops bF s o e) fun r => ig (mP r bF 0) (gV (bF ++ [r]) fun bF => dR s o.dst e fun s' => jR C ops rest (i + 1) bF s' K))

def iH : List Edge → List Nat
 | [] => []
 | ⟨on, gr⟩ :: es => cond (dV gr) (on :: iH es) (iH es)
def mz (ops : List Oper) : Nat → List Nat → List Nat
 | 0, cl => cl
 | k + 1, cl => mz ops k (cond (aC k cl) (match ops[k]? with | some o => iH o.after.toList ++ cl | none => cl) cl)
def pg (l : List Nat) : Nat → Bool
 | 0 => true
 | k + 1 => aC k l && pg l k
def Ctx.both (C : Ctx) : Ctx := { C with Γ := fun f a s => match C.Γ f a s with
 | some r => some r
 | none => C.jl.Γ f a s }
def uP (C : Ctx) (o : Oper) (c : Call) (K : Ex → AS → Prop) (s : AS) : Prop := match target C s c with
 | some (f, args) => match eN C.hH s.sg f args, eN C.jl s.sg f args with
   | some (p, e1), some (q, e2) => ig (di s o.dst) ((p ∨ q) ∧ (p → n6 s e1 fun u => K (.pan u)) ∧ (q → gU e2 fun e => dR s o.dst e (K .norm)))
   | _, _ => False
 | none => False
def vu (C : Ctx) (f : FuncId) (d : Tmp) (s : AS) (K : Ex → AS → Prop) (s' : AS) : Prop := match eN C.hH s.sg f [lk s'.tm d] with
 | some (p, e1) => p ∧ n6 ⟨s.nt, [], s.sg, s.kl⟩ e1 fun u => K (.pan u)
 | none => False
def iM : List Oper → Nat → Oper → List Oper
 | [], _, _ => []
 | _ :: os, 0, o => o :: os
 | p :: os, i + 1, o => p :: iM os i o
def qOp : Op → Bool
 | .move _ | .load _ _ | .fieldAddr _ _ _ | .field _ _ _ | .nilCheck _ => true
 | _ => false
def oK (i : Nat) : List Oper → Nat → Bool
 | [], _ => true
 | o :: os, k => (Nat.beq k i || qOp o.op) && oK i os (k + 1)
def nL (i d : Nat) : List Oper → Nat → Bool
 | [], _ => true
 | o :: os, k => (Nat.beq k i || (match o.dst with | some d' => !Nat.beq d' d | none => true)) && nL i d os (k + 1)
def oT (ops : List Oper) (i : Nat) : List Oper → Nat → Bool
 | [], _ => true
 | o :: os, n => aC i (mz ops n (iH o.after.toList)) && oT ops i os (n + 1)
inductive oZ (C : Ctx) (ops : List Oper) (s : AS) (K : Ex → AS → Prop) : Prop where
 | last (L : List Oper) (o : Oper) (c : Call) (hops : ops = L ++ [o]) (hc : o.op = .call c) (hg : o.guard = none) (he : ky L.length o.after.toList = true) (hb : pg (mz ops L.length (iH o.after.toList)) L.length = true) (h : jR C.both L L 0 [] s (uP C o c K))
 | pan (L T : List Oper) (i : Nat) (o : Oper) (x : Operand) (d : Tmp) (f : FuncId) (c : Call) (hops : ops = L ++ T) (hi : L[i]? = some o) (hc : o.op = .call c) (hcv : c.callee = .value (.func f)) (hca : c.args = #[x]) (hg : o.guard = none)
  (hd : o.dst = some d) (hq : oK i L 0 = true) (hu : nL i d L 0 = true) (ht : oT ops i T L.length = true) (h : jR C.both (iM L i { o with op := .move x }) (iM L i { o with op := .move x }) 0 [] s (vu C f d s K))

def xa (s : AS) (n : Nat) : List (Nat × V) → Prop
 | [] => True
 | (t, x) :: r => (lk s.tm t = x ∧ x.eX n = true) ∧ xa s n r

def td : List Nat → List Nat → Bool
 | [], _ => true
 | k :: ks, l => aC k l && td ks l
structure Sub (n : Nat) (s t : AS) : Prop where
 nt : s.nt = t.nt
 tm : xa s t.sg.length t.tm
 sg : eP s.sg t.sg t.sg.length
 kl : td s.kl t.kl = true
 len : Nat.ble n t.sg.length = true

mutual
def V.wf : V → Prop
 | .int k n => k.min ≤ n ∧ n ≤ k.max
 | .str s => s.length ≤ maxLen
 | .list _ _ l => l.length ≤ maxLen ∧ V.cY l
 | .agg cs | .tuple cs | .box cs _ => V.cY cs
 | .iface _ x => V.wf x
 | _ => True
def V.cY : List V → Prop
 | [] => True
 | c :: cs => V.wf c ∧ V.cY cs
end
def O.wf : O → Prop
 | .cells cs => V.cY cs
 | .buf _ _ l => l.length ≤ maxLen ∧ V.cY l
 | .siter s _ => s.length ≤ maxLen
 | .map _ _ es bs _ => es.length = bs.length
 | _ => True
def l7 : List (Nat × V) → List Nat → Prop
 | [], _ => True
 | (t, x) :: r, seen => (match aC t seen with
   | true => True
   | false => x.wf) ∧ l7 r (t :: seen)
def fP : List O → Prop
 | [] => True
 | o :: os => o.wf ∧ fP os

def mU (s : AS) (c : Operand) (b : Bool) (K : AS → Prop) : Prop := match c, s with
 | .tmp t, ⟨nt, tm, sg, kl⟩ => K ⟨nt, (t, .bool b) :: tm, sg, kl⟩
 | _, s => K s

def gb (i j k : Nat) : Nat := cond (Nat.beq k i) j (cond (Nat.beq k j) i k)
def oL (f : Nat → Option Nat) : List (Nat × V) → List (Nat × V)
 | [] => []
 | (t, x) :: r => (t, x.bP f) :: oL f r
def swapAt (sg : List O) (i j : Nat) : List O := fH (fH sg i (au sg j)) j (au sg i)
def jI : List V → Nat → V → List V
 | [], _, _ => []
 | _ :: xs, 0, y => y :: xs
 | x :: xs, n + 1, y => x :: jI xs n y
mutual
def V.put (i : Nat) (y : V) : V → V
 | .buf j => cond (Nat.beq j i) y (.buf j)
 | .agg cs => .agg (V.kV i y cs)
 | .tuple cs => .tuple (V.kV i y cs)
 | .iface t x => .iface t (V.put i y x)
 | .func f a b => .func f (V.kV i y a) (V.kV i y b)
 | .undef => .undef | .int k n => .int k n | .bool b => .bool b | .str s => .str s | .list c z l => .list c z l
 | .nilptr => .nilptr | .box cs o => .box cs o | .nilIface => .nilIface | .nilFunc => .nilFunc | .nilmap => .nilmap
 | .ptr j o => .ptr j o | .bptr j a o => .bptr j a o | .map j => .map j
def V.kV (i : Nat) (y : V) : List V → List V
 | [] => []
 | c :: cs => V.put i y c :: V.kV i y cs
end
def O.put (i : Nat) (y : V) : O → O
 | .cells cs => .cells (V.kV i y cs)
 | .dead => .dead | .buf a b l => .buf a b l | .siter s p => .siter s p | .map a sh es bs ck => .map a sh es bs ck
 | .miter m bs ck l x => .miter (V.put i y m) bs ck l x
def jH (i : Nat) (y : V) : List O → List O
 | [] => []
 | o :: os => o.put i y :: jH i y os
def oJ (i : Nat) (y : V) : List (Nat × V) → List (Nat × V)
 | [] => []
 | (t, x) :: r => (t, V.put i y x) :: oJ i y r
def AS.kT (s : AS) : eH → AS
 | .tm t sz => match lk s.tm t, sz with
   | .list true _ [], sz + 1 => ⟨s.nt, (t, .buf s.sg.length) :: s.tm, s.sg ++ [.buf (sz + 1) 0 []], s.kl⟩
   | _, _ => s
 | .cell i off sz => match au s.sg i, sz with
   | .cells cs, sz + 1 => match jd cs off with
     | some (.list true _ []) => ⟨s.nt, s.tm, fH s.sg i (.cells (jI cs off (.buf s.sg.length))) ++ [.buf (sz + 1) 0 []], s.kl⟩
     | _ => s
   | _, _ => s
 | .swap i j => match Nat.blt i s.sg.length && Nat.blt j s.sg.length with
   | true => ⟨s.nt, oL (fun k => some (gb i j k)) s.tm, iG (fun k => some (gb i j k)) (swapAt s.sg i j), i :: j :: s.kl⟩
   | false => s
 | .nw => ⟨s.nt, s.tm, s.sg ++ [.buf 1 0 []], s.kl⟩
 | .eV i => match au s.sg i with
   | .buf sz _ l => ⟨s.nt, oJ i (.list false sz l) s.tm, fH (jH i (.list false sz l) s.sg) i .dead, s.kl⟩
   | _ => s
def AS.cy (s : AS) : List eH → AS
 | [] => s
 | p :: ps => (s.kT p).cy ps

def uu (s : AS) (K : AS → Prop) : Prop := match s with
 | ⟨nt, tm, sg, kl⟩ => kE tm fun tm => iy sg fun sg => gV kl fun kl => K ⟨nt, tm, sg, kl⟩
@[simp] theorem KJ (s : AS) (K : AS → Prop) : uu s K = K s := by cases s; simp [uu]
def sC (s : AS) (ps : List eH) (K : AS → Prop) : Prop := match ps with
 | [] => K s
 | p :: ps => uu (s.cy (p :: ps)) K
theorem vw (s : AS) (ps : List eH) (K : AS → Prop) : sC s ps K = K (s.cy ps) := by cases ps <;> simp [sC, AS.cy]

def po (id : Nat) (K : Ex → AS → Prop) (e : Ex) (s : AS) : Prop := match e with
 | .exit j => match Nat.beq j id with
   | true => K .norm s
   | false => K (.exit j) s
 | e => K e s
inductive cB (n : Nat) (s : AS) (R : AS → (Ex → AS → Prop) → Prop) (K : Ex → AS → Prop) : Prop where
 | mk (X : Type) (inv : X → Prop) (I : X → AS) (μ : X → Nat) (ps : List eH) (x0 : X) (h0 : inv x0) (hs : Sub n (s.cy ps) (I x0))
  (h : ∀ x, inv x → l7 (I x).tm [] → fP (I x).sg → R (I x) (m9 (fun s' => ∃ (qs : List eH) (x' : X), inv x' ∧ Sub n (s'.cy qs) (I x') ∧ μ x' < μ x) K))

def rS (l : Nat) (f : AS → Prop) (K : Ex → AS → Prop) (e : Ex) (s : AS) : Prop := match e with
 | .goto j => match Nat.beq j l with
   | true => f s
   | false => False
 | e => K e s
def lX (K : Ex → AS → Prop) (e : Ex) (s : AS) : Prop := match e with
 | .goto _ => False
 | e => K e s
inductive mi (n l : Nat) (s : AS) (R : AS → (Ex → AS → Prop) → Prop) (K : Ex → AS → Prop) : Prop where
 | mk (X : Type) (inv : X → Prop) (I : X → AS) (μ : X → Nat) (ps : List eH) (x0 : X) (h0 : inv x0) (hs : Sub n (s.cy ps) (I x0))
  (h : ∀ x, inv x → l7 (I x).tm [] → fP (I x).sg → R (I x) (rS l (fun s' => ∃ (qs : List eH) (x' : X), inv x' ∧ Sub n (s'.cy qs) (I x') ∧ μ x' < μ x) K))

structure jw (n : Nat) (st0 : St) (g0 : ae) (st : St) (g : ae) (s : AS) : Prop where
 mono : ∀ b o v, st0 b o = some v → st b o = some v
 ba : ∀ i, i < n → aC i s.kl = false → g i = g0 i
 len : n ≤ s.sg.length
structure eR (E0 E : Env) : Prop where
 G : ∀ b, E.G b → E0.G b
 w0 : ∀ b, ¬ E0.G b → E.w0.heap[b]? = E0.w0.heap[b]?
 os : E.w0.os = E0.w0.os
 tape : E.w0.tape = E0.w0.tape
 output : E.w0.output = E0.w0.output
 size : E0.w0.heap.size ≤ E.w0.heap.size
 st0 : E.st0 = E0.st0
 gnew : ∀ b, E0.w0.heap.size ≤ b → E0.G b
 ds : ∃ Ds : List Nat, E.ds = Ds.map (fun D => { target := .collected D, args := #[] }) ++ E0.ds ∧ Ds.Nodup ∧ ∀ D ∈ Ds, E0.G D ∧ ¬ E.G D ∧ E.w0.heap[D]? = some (.deferred (some []))
abbrev YT : Type := List V → List O → List Nat → Option (Prop × V × List O × List Nat)
def tF (C : Ctx) (E : Env) (n : Nat) (st0 : St) (g0 : ae) (l : Nat) (Y : YT) : Prop := ∀ args (s : AS) pre x sg' ks, Y args s.sg s.kl = some (pre, x, sg', ks) → pre → ∀ (st : St) (g : ae) (w : World) (vs : List Value), ay E st g s.sg w → aP C.gl st → aq st g args s.sg.length vs → jw n st0 g0 st g s →
 YieldAt Fence.wide 0 C.P l vs.toArray w fun en w' => ∃ v st' g', en = .returned v ∧ ay E st' g' sg' w' ∧ VR st' g' x sg'.length v ∧ iP E st g s.sg.length st' g' sg'.length ks
def SeqOK (C : Ctx) (gf : FuncId) (lb : List V) (σ : List O) (Y : YT) (r : List O) (ks : List Nat) : Prop :=
 jx C.P gf ∧ ∀ (E : Env) (st : St) (g : ae) (w : World) (l : Nat) (vs : List Value), ay E st g σ w → aP C.gl st → E.ds = [] → aq st g lb σ.length vs →
  (∀ E', eR E E' → tF C E' σ.length st g l Y) →
  Calls C.P gf (.func (.yield l) #[] #[] :: vs).toArray w fun e w' => ∃ v st' g', e = .returned v ∧ ay E st' g' r w' ∧ (∀ b o v, st b o = some v → st' b o = some v) ∧ σ.length ≤ r.length ∧ ∀ i, i < σ.length → aC i ks = false → g' i = g i
def oU (tm : List (Nat × V)) (kl : List Nat) : List (Nat × V) → Prop
 | [] => True
 | (t, x) :: r => (lk tm t = x ∧ x.kill kl = x) ∧ oU tm kl r
def s8 (n : Nat) (ks : List Nat) : List Nat → Bool
 | [] => true
 | k :: kl => (aC k ks || Nat.ble n k) && s8 n ks kl
def xx (n : Nat) (sg' : List O) (ks : List Nat) (s : AS) : Prop := ∃ ps : List eH, eP (s.cy ps).sg sg' sg'.length ∧ s8 n ks (s.cy ps).kl = true ∧ n ≤ sg'.length
def gF : Code → Bool
 | .skip | .label _ | .exit _ | .ret | .goto _ => true
 | .region _ _ d => !d
 | .seq a b | .cond _ a b => gF a && gF b
 | .block _ a => gF a
 | _ => false
inductive tA (C : Ctx) (s : AS) (g : Operand) (ps : Array Tmp) (A B : Nat → AS → (Ex → AS → Prop) → Prop) (K : Ex → AS → Prop) : Prop where
 | mk (ps0 : List eH) (gf : FuncId) (lb : List V) (Y : YT) (p : Tmp) (tmI tmE : List (Nat × V)) (r : List O) (ks : List Nat)
     (hyd : C.yd = fun _ _ _ _ => none) (hps : ps = #[p]) (hp : Nat.blt p s.nt = true) (hg : (s.cy ps0).ev C g = .func (.func gf) [] lb) (hseq : SeqOK C gf lb (s.cy ps0).sg Y r ks)
     (hround : ∀ args (s' : AS) pre y sg' ks', Y args s'.sg s'.kl = some (pre, y, sg', ks') → pre → V.cY args → fP s'.sg → ∃ x, args = [x] ∧ y = .bool true ∧ oU (s.cy ps0).tm s'.kl tmI ∧
      A s'.sg.length ⟨s.nt, (p, x) :: tmI, s'.sg, []⟩ (fun ex s1 => ex = .norm ∧ B s'.sg.length s1 (fun ex s2 => ex = .norm ∧ xx s'.sg.length sg' ks' s2)))
     (hend : oU (s.cy ps0).tm ks tmE ∧ K .norm ⟨s.nt, tmE, r, dQ ks (s.cy ps0).kl⟩)

def vc (C : Ctx) (n : Nat) : Code → AS → (Ex → AS → Prop) → Prop
 | .skip, s, K => K .norm s
 | .label _, s, K => K .norm s
 | .region id ops false, s, K => sC s (C.hint id) fun s => eu C ops.toList false ops.toList s K
 | .region id ops true, s, K => sC s (C.hint id) fun s => cond (C.pdr id) (oZ C ops.toList s K) (jR C ops.toList ops.toList 0 [] s (K .norm))
 | .seq a b, s, K => vc C n a s (m9 (fun s' => vc C n b s' K) K)
 | .cond c x y, s, K => match s.ev C c with
   | .bool b => c9 b (mU s c true fun s => vc C n x s K) (mU s c false fun s => vc C n y s K)
   | _ => False
 | .block id c, s, K => vc C n c s (po id K)
 | .loop c, s, K => cB n s (vc C n c) K
 | .scope (.seq a (.seq (.label l) b)), s, K => match findLabel a l with
   | none => vc C n a s (m9 (fun s' => mi n l s' (vc C n b) K) (lX K))
   | some _ => False
 | .scope c, s, K => vc C n c s (lX K)
 | .exit id, s, K => K (.exit id) s
 | .goto l, s, K => K (.goto l) s
 | .ret, s, K => K .ret s
 | .rangeFunc g ps assign body, s, K => ig (gF assign && gF body) (tA C s g ps (fun m => vc C m assign) (fun m => vc C m body) K)
 | _, _, _ => False

def gn : List V → Nat → List (Nat × V)
 | [], _ => []
 | x :: xs, i => (i, x) :: gn xs (i + 1)
def vv (agg : Bool) (size : Nat) (cs : List V) (off : Nat) : Option V := match agg with
 | true => match gG (iS cs off) size with
   | some r => some (.agg r)
   | none => none
 | false => jd cs off
def m7 (  ti : TypeId → TI) (s : AS) : List ResultVar → Option (List V)
 | [] => some []
 | .tmp t :: r => match m7 ti s r with
   | some xs => some (lk s.tm t :: xs)
   | none => none
 | .cell b t :: r => match lk s.tm b with
   | .ptr i off => match au s.sg i with
     | .cells cs => match (ti t).k with
       | .other => none
       | k => match vv k.isAgg (ti t).size cs off, m7 ti s r with
         | some x, some xs => some (x :: xs)
         | _, _ => none
     | _ => none
   | _ => none
def nh (ti : TypeId → TI) (s : AS) (rs : List ResultVar) : Option V := match m7 ti s rs with
 | some [x] => some x
 | some xs => some (.tuple xs)
 | none => none

def jY (sg : List O) (ba : Bool) : List Nat → Bool
 | [] => true
 | k :: ks => (match au sg k with
   | .buf _ _ _ => !ba
   | _ => Nat.ble sg.length k) && jY sg ba ks

def tw (ti : TypeId → TI) (rs : List ResultVar) (sg : List O) (x : V) (r : Option (List O)) (s : AS) : Prop := ff (nh ti s rs) fun y => match r with
 | none => y = x ∧ x.eX sg.length = true ∧ eP s.sg sg sg.length ∧ jY sg true s.kl = true
 | some sg' => y = x ∧ x.eX sg'.length = true ∧ eP s.sg sg' sg'.length ∧ jY sg (dY sg') s.kl = true ∧ Nat.ble sg.length sg'.length = true
inductive ab (ti : TypeId → TI) (rs : List ResultVar) (sg : List O) (x : V) (r : Option (List O)) (s : AS) : Prop where
 | mk (ps : List eH) (h : tw ti rs sg x r (s.cy ps))
def Ends (ti : TypeId → TI) (rs : List ResultVar) (sg : List O) (x : V) (r : Option (List O)) (e : Ex) (s : AS) : Prop := match e with
 | .exit _ => False
 | .goto _ => False
 | .pan _ => False
 | _ => ab ti rs sg x r s
def PanQ (sg : List O) (r : Option (List O)) (s : AS) : Prop := match r with
 | none => eP s.sg sg sg.length ∧ jY sg true s.kl = true
 | some sg' => eP s.sg sg' sg'.length ∧ jY sg (dY sg') s.kl = true ∧ Nat.ble sg.length sg'.length = true
inductive cZ (sg : List O) (r : Option (List O)) (s : AS) : Prop where
 | mk (ps : List eH) (h : PanQ sg r (s.cy ps))
def xu (u : Value) (sg : List O) (r : Option (List O)) (e : Ex) (s : AS) : Prop := match e with
 | .pan v => v = u ∧ cZ sg r s
 | _ => False

end Go.VG
namespace Go.VG
open Go

def tx (P : Program) (t : TypeId) (sh : List Sc) : Prop := ∀ (st : St) (g : ae) (n : Nat) (cs ds : List V) (r : Bool) (a b : Array Value) (w : World),
 cJ sh cs = true → cJ sh ds = true → eqs cs ds = some r → cs.length = P.cellsOf t → aq st g cs n a.toList → aq st g ds n b.toList → (Op.equal t (.agg a) (.agg b)).run P w = .ok r w ∧ P.eqGuardType P.depth t = false

def mw (P : Program) (k : TypeId) : Bool := match P.underlying k with
 | some (.struct _) | some (.array _ _) => true
 | _ => false
def p7 (P : Program) (k : TypeId) (sh : List Sc) : Prop := WideMaps.KeyLaw P k ∧ ∀ x, iv (mw P k) sh x = true → n5 x → ∃ l, keyOf P k (cX x) = some l
def TK.yU (P : Program) (t : TypeId) (sh : List Sc) : TK → Prop
 | .map k _ => p7 P k sh
 | _ => tx P t sh
def TK.ok (P : Program) (t : TypeId) : TK → Prop
 | .bool => P.underlying t = some .bool
 | .int k => P.underlying t = some (.int k)
 | .string => P.underlying t = some .string
 | .slice e => P.underlying t = some (.slice e)
 | .array n e => P.underlying t = some (.array n e)
 | .ptr e => P.underlying t = some (.pointer e)
 | .struct fs => ∃ fields, P.underlying t = some (.struct fields) ∧ fields.toList.map (fun f => (f.offset, f.type)) = fs ∧ (fields.toList.mapM (fun f => (P.info? f.type).map fun i => (f.offset, i.size))).isSome = true
 | .iface => ∃ ms, P.underlying t = some (.interface ms)
 | .func => ∃ a b c, P.underlying t = some (.func a b c)
 | .map k e => P.underlying t = some (.map k e)
 | .other => False

def aR (P : Program) (t : TypeId) (i : TI) : Prop := match i.k with
 | .other => True
 | k => k.ok P t ∧ (∃ info, P.info? t = some info ∧ info.size = i.size ∧ info.bytes = i.bytes ∧ ∃ z, info.zero = some z ∧ ∀ (st : St) (g : ae) (n : Nat), VR st g i.zero n z) ∧
  (i.feq ≠ [] → i.k.yU P t i.feq)

theorem aR.of {P : Program} {t : TypeId} {i : TI} (h : aR P t i) (hk : i.k ≠ .other) : i.k.ok P t ∧ (∃ info, P.info? t = some info ∧ info.size = i.size ∧ info.bytes = i.bytes ∧ ∃ z, info.zero = some z ∧ ∀ (st : St) (g : ae) (n : Nat), VR st g i.zero n z) ∧
     (i.feq ≠ [] → i.k.yU P t i.feq) := by
 unfold aR at h
 split at h
 . contradiction
 . exact h

section
variable {P : Program} {t : TypeId} {i : TI} (w : World)

theorem ga (h : aR P t i) (hk : i.k ≠ .other) : (sizeOf t).run P w = .ok i.size w := by
 obtain ⟨_, ⟨info, h1, h2, _⟩, _⟩ := h.of hk
 simp [sizeOf, typeInfo, h1, h2]
theorem tS (h : aR P t i) (hk : i.k ≠ .other) : P.cellsOf t = i.size := by
 obtain ⟨_, ⟨info, h1, h2, _⟩, _⟩ := h.of hk
 simp [Program.cellsOf, h1, h2]
theorem vL (h : aR P t i) (hk : i.k ≠ .other) : ∃ z, (zeroValue t).run P w = .ok z w ∧ ∀ (st : St) (g : ae) (n : Nat), VR st g i.zero n z := by
 obtain ⟨_, ⟨info, h1, h2, _, z, h4, h5⟩, _⟩ := h.of hk
 exact ⟨z, by simp [zeroValue, typeInfo, h1, h4], h5⟩
theorem sG (h : aR P t i) (hk : i.k ≠ .other) : (isAgg t).run P w = .ok i.k.isAgg w := by
 obtain ⟨h1, _, _⟩ := h.of hk
 cases hk' : i.k <;> rw [hk'] at h1 <;> simp only [TK.ok] at h1
 case struct fs => obtain ⟨f, h1, _⟩ := h1; simp [isAgg, run_underlying h1, TK.isAgg]
 case iface => obtain ⟨f, h1⟩ := h1; simp [isAgg, run_underlying h1, TK.isAgg]
 case func => obtain ⟨a, b, c, h1⟩ := h1; simp [isAgg, run_underlying h1, TK.isAgg]
 all_goals simp [isAgg, run_underlying h1, TK.isAgg]
end

theorem rR : ∀ (xs : List V) (n : Nat), jd xs n = xs[n]?
 | [], n => by cases n <;> simp [jd]
 | x :: xs, 0 => by simp [jd]
 | x :: xs, n + 1 => by simp [jd, rR xs n]
theorem rC : ∀ (xs : List V) (n : Nat), iS xs n = xs.drop n
 | xs, 0 => by simp [iS]
 | [], n + 1 => by simp [iS]
 | x :: xs, n + 1 => by simp [iS, rC xs n]
theorem xd : ∀ {xs : List V} {n : Nat} {r : List V}, gG xs n = some r → r = xs.take n ∧ n ≤ xs.length
 | xs, 0, r, h => by simp [gG] at h; simp [h]
 | [], n + 1, r, h => by simp [gG] at h
 | x :: xs, n + 1, r, h => by
   simp only [gG] at h
   split at h
   . rename_i r' hr
     obtain ⟨h1, h2⟩ := xd hr
     cases h
     subst h1
     exact ⟨by simp, by simpa using h2⟩
   . cases h
def over {α : Type} (xs : List α) (o : Nat) (ys : List α) : List α := xs.take o ++ ys ++ xs.drop (o + ys.length)
theorem qB : ∀ {xs : List V} {o : Nat} {ys r : List V}, ia xs o ys = some r → r = over xs o ys ∧ (ys = [] ∨ o + ys.length ≤ xs.length)
 | xs, o, [], r, h => by simp [ia] at h; simp [over, h]
 | [], _, _ :: _, r, h => by simp [ia] at h
 | x :: xs, 0, y :: ys, r, h => by
   simp only [ia] at h
   split at h
   . rename_i r' hr
     obtain ⟨h1, h2⟩ := qB hr
     cases h
     subst h1
     refine ⟨by simp [over], .inr ?_⟩
     rcases h2 with rfl | h2
     . simp
     . simpa using h2
   . cases h
 | x :: xs, n + 1, y :: ys, r, h => by
   simp only [ia] at h
   split at h
   . rename_i r' hr
     obtain ⟨h1, h2⟩ := qB hr
     cases h
     subst h1
     refine ⟨?_, .inr ?_⟩
     . simp only [over, List.take_succ_cons, List.cons_append]
       rw [show n + 1 + (y :: ys).length = (n + (y :: ys).length) + 1 by omega, List.drop_succ_cons]
     . rcases h2 with h2 | h2
       . cases h2
       . simp at h2 ⊢; omega
   . cases h

theorem kc {α : Type} {xs : List α} {o : Nat} {ys : List α} (h : ys = [] ∨ o + ys.length ≤ xs.length) : (over xs o ys).length = xs.length := by
 rcases h with rfl | h
 . simp [over]
 . simp [over]; omega

theorem tE {st : St} {g : ae} {n o : Nat} {cs ds : List V} {vs us : List Value} (h : aq st g cs n vs) (k : aq st g ds n us) : aq st g (over cs o ds) n (over vs o us) := by
 unfold over
 rw [← dP k]
 exact mn (mn (pf h) k) (pb h)

theorem ew : ∀ {sg : List O} {i : Nat} {o : O}, au sg i = o → o ≠ .dead → sg[i]? = some o ∧ i < sg.length
 | [], i, o, h, hn => by simp [au] at h; exact absurd h.symm hn
 | p :: ps, 0, o, h, hn => by simp [au] at h; simp [h]
 | p :: ps, i + 1, o, h, hn => by
   simp only [au] at h
   obtain ⟨h1, h2⟩ := ew h hn
   exact ⟨by simpa using h1, by simpa using h2⟩
theorem zT (ks : List Nat) : ∀ sg : List O, rZ ks sg = sg.map (O.kill ks)
 | [] => rfl
 | o :: os => by simp [rZ, zT ks os]
theorem ib : ∀ (sg : List O) (i : Nat) (o : O), fH sg i o = sg.set i o
 | [], i, o => by simp [fH]
 | p :: ps, 0, o => by simp [fH]
 | p :: ps, i + 1, o => by simp [fH, ib ps i o]
mutual
theorem fT : ∀ (x : V), x.kill [] = x
 | .undef | .int .. | .bool _ | .str _ | .list .. | .nilptr | .box .. | .nilIface | .nilFunc | .nilmap | .ptr .. | .bptr .. | .buf _ | .map _ => by simp [V.kill, aC]
 | .agg cs | .tuple cs => by simp [V.kill, q9 cs]
 | .iface t x => by simp [V.kill, fT x]
 | .func f a b => by simp [V.kill, q9 a, q9 b]
theorem q9 : ∀ (x : List V), V.eb [] x = x
 | [] => by simp [V.eb]
 | c :: cs => by simp [V.eb, fT c, q9 cs]
end
theorem Ha (o : O) : o.kill [] = o := by cases o <;> simp [O.kill, q9, fT]
theorem pY (ks : List Nat) (sg : List O) : iD ks sg = sg.map (O.kill ks) := by
 cases ks with
 | nil => simp only [iD]; rw [show (O.kill []) = id from funext Ha]; simp
 | cons k ks => simp [iD, zT]
theorem tG (a b : List O) : gk a b = a ++ b := by cases b <;> simp [gk]

theorem Aq (ks : List Nat) : ∀ (tm : List (Nat × V)) (t : Nat), lk (qb ks tm) t = (lk tm t).kill ks
 | [], t => by simp [qb, lk, V.kill]
 | (k, x) :: r, t => by
   simp only [qb, lk]
   cases Nat.beq k t <;> simp [Aq ks r t]
theorem kM (ks : List Nat) (tm : List (Nat × V)) (t : Nat) : lk (gY ks tm) t = (lk tm t).kill ks := by
 cases ks with
 | nil => simp [gY, fT]
 | cons k ks => simp [gY, Aq]

theorem iQ {st : St} {g : ae} {x : V} {n : Nat} {v : Value} (h : VR st g x n v) (hu : x.ez = false) : aq st g x.cells n v.cells.toList := by
 cases x <;> first
  | (simp [V.ez] at hu; done)
  | (simp only [VR] at h
     first
      | (obtain ⟨vs, rfl, h⟩ := h; exact h)
      | (rename_i cs; obtain ⟨vs, rfl, h⟩ := h; simp only [V.cells, Value.cells]; refine c7 ?_ d7; simp only [VR]; exact ⟨vs, rfl, h⟩))
  | skip
 all_goals (
  have h' := h
  simp only [VR] at h
  first
   | (subst h; simp only [V.cells, Value.cells]; exact c7 h' d7)
   | (obtain ⟨rfl, _⟩ := h; simp only [V.cells, Value.cells]; exact c7 h' d7)
   | (obtain ⟨_, _, rfl, _⟩ := h; simp only [V.cells, Value.cells]; exact c7 h' d7)
   | (obtain ⟨_, _, _, rfl, _⟩ := h; simp only [V.cells, Value.cells]; exact c7 h' d7)
   | (obtain ⟨_, _, _, rfl⟩ := h; simp only [V.cells, Value.cells]; exact c7 h' d7)
   | skip)

end Go.VG
