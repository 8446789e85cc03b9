/-
  A part of the proof.
-/
import Derived.Test.YtipejldppicijaaGreatDoorVgA
import Derived.WideKeyMaps
import Derived.WideKeyEntry
set_option linter.unusedSimpArgs false
set_option linter.unusedVariables false
namespace Go.VG
open Go

inductive Ex where
 | norm | exit (id : Nat) | ret | goto (l : Nat) | pan (v : Value)
def ki (f : AS → Prop) (K : Ex → AS → Prop) (e : Ex) (s : AS) : Prop := match e with
 | .norm => f s
 | e => K e s

def AS.put (s : AS) (d : Option Nat) (v : V) : AS := ⟨s.nt, match d with
 | some d => (d, v) :: s.tm
 | none => s.tm, s.sg, s.kl⟩

def AS.back (s : AS) (d : Option Nat) (x : V) (sg : List O) (ks : List Nat) : AS :=
 ⟨s.nt, match d with
  | some d => (d, x) :: eT ks s.tm
  | none => eT ks s.tm, sg, cW ks s.kl⟩

def iJ (s : AS) (d : Option Nat) (x : V) (sg : List O) (ks : List Nat) (K : AS → Prop) : Prop := match s, d with
 | ⟨nt, tm, _, kl⟩, some d => eK x fun x => iT (eT ks tm) fun tm => fA sg fun sg => eM (cW ks kl) fun kl => K ⟨nt, (d, x) :: tm, sg, kl⟩
 | ⟨nt, tm, _, kl⟩, none => iT (eT ks tm) fun tm => fA sg fun sg => eM (cW ks kl) fun kl => K ⟨nt, tm, sg, kl⟩
@[simp] theorem AJ (s : AS) (d : Option Nat) (x : V) (sg : List O) (ks : List Nat) (K : AS → Prop) : iJ s d x sg ks K = K (s.back d x sg ks) := by
 obtain ⟨nt, tm, sg', kl⟩ := s
 cases d <;> simp [iJ, AS.back, jJ]

def cB (s : AS) : Option Nat → Bool
 | some d => Nat.blt d s.nt
 | none => true

def bo : List Oper → Nat → Option Nat
 | [], _ => none
 | o :: _, 0 => o.dst
 | _ :: os, j + 1 => bo os j

def hZ (P : Program) (f : FuncId) : Prop := ∃ fn, P.funcs[f]? = some fn ∧ (fn.name == "runtime.NumGoroutine") = false ∧ fn.body.isNone = false

def aE (gl : Nat → Option (List V)) (st : St) : Prop := ∀ b cs, gl b = some cs → ∀ g : ae, ∃ vs, aq st g cs 0 vs ∧ ∀ j, j < vs.length → st b j = vs[j]?

structure fM (E : Env) (st : St) (g : ae) (n : Nat) (st' : St) (g' : ae) (n' : Nat) (ks : List Nat) : Prop where
 mono : ∀ b o v, st b o = some v → st' b o = some v
 aO : ∀ i, i < n → ay i ks = false → g' i = g i
 len : n ≤ n'

def vA (C : Ctx) (f : FuncId) (args : List V) (sg : List O) (K : V → List O → List Nat → Prop) : Prop :=
 hZ C.P f ∧ ∀ (E : Env) (st : St) (g : ae) (w : World) (vs : List Value), az E st g sg w → aE C.gl st → aq st g args sg.length vs →
  Calls C.P f vs.toArray w fun e w' => ∃ v x sg' ks st' g', e = .returned v ∧ az E st' g' sg' w' ∧ VR st' g' x sg'.length v ∧ fM E st g sg.length st' g' sg'.length ks ∧ K x sg' ks

def yieldOf (C : Ctx) (s : AS) (c : Call) : Option (Nat × List V) :=
 match c.callee with
 | .value x => match s.ev C x with
   | .func (.yield l) [] [] => some (l, s.bz C c.args.toList)
   | _ => none
 | _ => none
def qR    (C : Ctx) (s : AS) (x : Operand) (d : Option Nat) (K : Ef → AS → Prop) : Prop := match s.ev C x with
 | .ptr k 0 => match ar s.sg k with
   | .miter (.map i) bs ck left _ => match ar s.sg i with
     | .map _ _ _ bs' ck' => (bs' = bs ∧ ck' = ck) ∧ (left = [] → cJ s d ⟨.tuple [.bool false], [], [], [], [k, i]⟩ fun s' => K ⟨.tuple [.bool false], [], [], [], [k, i]⟩ s') ∧
      (∀ j, j ∈ left → cJ s d ⟨.tuple [.bool true, .undef, .undef], [], [(k, .miter (.map i) bs ck (left.erase j) j)], [], [k, i]⟩ fun s' => K ⟨.tuple [.bool true, .undef, .undef], [], [(k, .miter (.map i) bs ck (left.erase j) j)], [], [k, i]⟩ s')
     | _ => False
   | _ => False
 | _ => False
def lA (s : AS) (e : Ef) (X : Value → AS → Prop) : Prop := eL e fun e => dx (gV e.v) fun u => cJ s none ⟨.undef, e.ks, e.up, e.nw, e.rd⟩ (X u)
def wL (C : Ctx) (ops : List Oper) (o : Oper) (s : AS) (R : Ex → AS → Prop) : Prop :=
 fi (cB s o.dst) (match o.guard with
 | none => go s
 | some (j, want) => match bo ops j with
   | none => False
   | some t => match lk s.tm t with
     | .bool b => bc b (cond want (run' (.bool true) t) (skip (.bool true) t)) (cond want (skip (.bool false) t) (run' (.bool false) t))
     | .tuple [] => skip (.tuple []) t
     | _ => False)
where
 go (s : AS) : Prop := match o.op with
   | .call c => match target C s c with
     | some (f, args) => match dg C s.sg f args with
       | some (pre, e) => pre ∧ eL e fun e => cJ s o.dst e (R .norm)
       | none => match dg C.eX s.sg f args, dg C.gz s.sg f args with
         | some (p, e1), some (q, e2) => (p ∨ q) ∧ (p → lA s e1 fun u => R (.pan u)) ∧ (q → eL e2 fun e => cJ s o.dst e (R .norm))
         | _, _ => vA C f args s.sg fun x sg ks => iJ s o.dst x sg ks (R .norm)
     | none => match yieldOf C s c with
       | some (l, args) => match C.yd l args s.sg s.kl with
         | some (pre, x, sg', ks) => pre ∧ iJ s o.dst x sg' ks (R .norm)
         | none => False
       | none => bp C s o fun e => cJ s o.dst e (R .norm)
   | .next x false => qR C s x o.dst fun _ s' => R .norm s'
   | .panic x => dx (gV (s.ev C x)) fun u => R (.pan u) s
   | _ => bp C s o fun e => cJ s o.dst e (R .norm)
 run' (b : V) (t : Nat) : Prop := cJ s (some t) (pe b) go
 skip (b : V) (t : Nat) : Prop := cJ s (some t) (pe b) fun s => cJ s o.dst (pe (.tuple [])) (R .norm)

def qP (C : Ctx) (ops : List Oper) (o : Oper) (rest : List Oper) : Option (Nat × Nat) := match o.op, o.dst, rest with
  | .buildSlice t _ _, some d, o2 :: _ => match o2.op, o2.dst, (C.ti t).k with
    | .convert a b (.tmp d'), some d2, .slice e => match (C.ti e).k with
      | .int .u8 => cond (Nat.beq a t && Nat.beq b t && Nat.beq d d' && !C.lits d) (match o.guard, o2.guard with
        | none, none => some (d, d2)
        | some (j, x), some (j', x') => match bo ops j with
          | some u => cond (Nat.beq j j' && Bool.and (x == x') (!Nat.beq u d)) (some (d, d2)) none
          | none => none
        | _, _ => none) none
      | _ => none
    | _, _, _ => none
  | _, _, _ => none
def et (s : AS) (p : Option (Nat × Nat)) (K : Bool → AS → Prop) : Prop := match p with
 | none => K false s
 | some (d, d2) => fi (Nat.blt d2 s.nt) (eK (lk s.tm d) fun x => K true (s.put (some d2) x))

def dm (C : Ctx) (ops : List Oper) : Bool → List Oper → AS → (Ex → AS → Prop) → Prop
 | _, [], s, K => K .norm s
 | true, _ :: rest, s, K => dm C ops false rest s K
 | false, o :: rest, s, K => wL C ops o s (ki (fun s' => et s' (qP C ops o rest) fun b s'' => dm C ops b rest s'' K) K)

def du (C : Ctx) (ops : List Oper) (o : Oper) (s : AS) (K : Ef → AS → Prop) (U : AS → V → List O → List Nat → Prop) (X : Value → AS → Prop) : Prop :=
 fi (cB s o.dst) (match o.guard with
 | none => run
 | some (j, want) => match bo ops j with
   | none => False
   | some t => match lk s.tm t with
     | .bool b => bc b (cond want (run' (.bool true) t) (skip (.bool true) t)) (cond want (skip (.bool false) t) (run' (.bool false) t))
     | .tuple [] => skip (.tuple []) t
     | _ => False)
where
 go (s : AS) : Prop := match o.op with
   | .call c => match target C s c with
     | some (f, args) => match dg C s.sg f args with
       | some (pre, e) => pre ∧ eL e fun e => cJ s o.dst e fun s' => K e s'
       | none => match dg C.eX s.sg f args, dg C.gz s.sg f args with
         | some (p, e1), some (q, e2) => (p ∨ q) ∧ (p → lA s e1 X) ∧ (q → eL e2 fun e => cJ s o.dst e fun s' => K e s')
         | _, _ => vA C f args s.sg (U s)
     | none => match yieldOf C s c with
       | some (l, args) => match C.yd l args s.sg s.kl with
         | some (pre, x, sg', ks) => pre ∧ U s x sg' ks
         | none => False
       | none => bp C s o fun e => cJ s o.dst e fun s' => K e s'
   | .next x false => qR C s x o.dst K
   | .panic x => dx (gV (s.ev C x)) fun u => X u s
   | _ => bp C s o fun e => cJ s o.dst e fun s' => K e s'
 run : Prop := go s
 run' (b : V) (t : Nat) : Prop := cJ s (some t) (pe b) fun s => go s
 skip (b : V) (t : Nat) : Prop := cJ s (some t) (pe b) fun s => cJ s o.dst (pe (.tuple [])) fun s' => K (pe (.tuple [])) s'

theorem BP (C : Ctx) (ops : List Oper) (o : Oper) (s : AS) (f : AS → Prop) (K : Ex → AS → Prop) : wL C ops o s (ki f K) = du C ops o s (fun _ s' => f s') (fun s x sg ks => iJ s o.dst x sg ks f) (fun u s' => K (.pan u) s') := rfl

def j8 : Option Operand → List Operand
 | some x => [x]
 | none => []
def oQ : List (Nat × Operand) → List Operand
 | [] => []
 | (_, x) :: r => x :: oQ r
def fg : Op → List Operand
 | .move x | .assign x | .box _ x | .load _ x | .nilCheck x | .unOp _ _ x | .convert _ _ x | .makeInterface _ x | .fieldAddr _ x _ | .field _ x _ | .range _ x | .next x _ | .typeAssert x _ _ _ | .extract x _ => [x]
 | .pick c a b => [c, a, b]
 | .makeMap _ r => j8 r
 | .lookup _ a b _ | .mapEntry _ a b => [a, b]
 | .mapUpdate _ a b c | .entryStore _ a b c => [a, b, c]
 | .entry x => [x]
 | .build _ ps | .buildSlice _ _ ps => oQ ps.toList
 | .store _ a v | .binOp _ _ a v _ | .makeSlice _ a v | .indexAddr _ a v | .index _ a v => [a, v]
 | .makeFunc _ a b => a.toList ++ b.toList
 | .slice _ x lo hi mx => x :: (j8 lo ++ (j8 hi ++ j8 mx))
 | .call c => match c.callee with
   | .value f => f :: c.args.toList
   | .invoke r _ => r :: c.args.toList
   | .builtin _ => c.args.toList
 | _ => []
def tmpsOf : List Operand → List Nat
 | [] => []
 | .tmp t :: r => t :: tmpsOf r
 | _ :: r => tmpsOf r
def mL (ops : List Oper) : Option (Nat × Bool) → List Nat
 | none => []
 | some (j, _) => match bo ops j with
   | some t => [t]
   | none => []
def looks (ops : List Oper) (o : Oper) : List Nat := tmpsOf (fg o.op) ++ mL ops o.guard

mutual
def V.free (ks : List Nat) : V → Bool
 | .ptr j _ | .bptr j _ _ | .buf j | .map j => !ay j ks
 | .agg cs | .tuple cs => V.ic ks cs
 | .iface _ x => V.free ks x
 | .func _ fs cs => V.ic ks fs && V.ic ks cs
 | _ => true
def V.ic (ks : List Nat) : List V → Bool
 | [] => true
 | c :: cs => V.free ks c && V.ic ks cs
end
mutual
def V.ji : V → Bool
 | .undef => false
 | .agg cs | .tuple cs => V.iA cs
 | .iface _ x => V.ji x
 | .func _ fs cs => V.iA fs && V.iA cs
 | _ => true
def V.iA : List V → Bool
 | [] => true
 | c :: cs => V.ji c && V.iA cs
end
def jN (ks : List Nat) : List O → Bool
 | [] => true
 | .cells cs :: os => V.ic ks cs && jN ks os
 | .miter m _ _ _ _ :: os => V.free ks m && jN ks os
 | _ :: os => jN ks os
def kC : List O → Bool
 | [] => true
 | .cells cs :: os => V.iA cs && kC os
 | .miter m _ _ _ _ :: os => V.ji m && kC os
 | .dead :: _ => false
 | _ :: os => kC os
def gm (sg : List O) : List Nat → List O
 | [] => []
 | i :: is => ar sg i :: gm sg is

structure Rc where
 d : Option Nat
 us : List Nat
 anc : List Nat
 e : Ef
 n : Nat
 ov : List V
 oo : List O
 lu : Nat × List Nat

def quiet (e : Ef) : Bool := match e with
 | ⟨_, [], [], [], _⟩ => true
 | _ => false
def nT (d : Option Nat) (us : List Nat) : Bool := match d with
 | some d => !ay d us
 | none => true
def wo : Option Nat → Option Nat → Bool
 | some a, some b => !Nat.beq a b
 | _, _ => true
def nL : List (Nat × O) → List Nat → Bool
 | [], _ => true
 | (i, _) :: r, rd => !ay i rd && nL r rd
def iH : List Nat → Nat → Bool
 | [], _ => true
 | i :: is, n => Nat.blt i n && iH is n
def ir (o : Oper) : Nat × List Nat := match o.guard, o.op with
 | none, .lookup t (.tmp m) (.tmp x) false => (1, [t, m, x])
 | none, .mapEntry t (.tmp m) (.tmp x) => (2, [t, m, x])
 | _, _ => (0, [])
def ql : List Nat → List Nat → Bool
 | [], [] => true
 | a :: r, b :: q => Nat.beq a b && ql r q
 | _, _ => false
def oP (j i : Rc) : Bool := Nat.beq j.lu.1 1 && (Nat.beq i.lu.1 2 && ql j.lu.2 i.lu.2)
def indep (j i : Rc) : Bool :=
 nT j.d i.us && nT i.d j.us && wo i.d j.d && (oP j i ||
 match quiet j.e, quiet i.e with
  | true, true => true
  | true, false => V.ic i.e.ks j.ov && jN i.e.ks j.oo && V.free i.e.ks j.e.v && nL i.e.up j.e.rd && iH j.e.rd i.n
  | false, true => V.iA i.ov && kC i.oo && V.free j.e.ks i.e.v && nL j.e.up i.e.rd && iH i.e.rd j.n
  | false, false => false)
def lg (i : Rc) : List Rc → Nat → Bool
 | [], _ => true
 | j :: js, k => (ay k i.anc || indep j i) && lg i js (k + 1)

def cN : Ground → Bool
 | .textOnly _ | .gcOnly _ => false
 | _ => true
def jl : List Rc → Nat → List Nat
 | [], _ => []
 | r :: _, 0 => r.anc
 | _ :: rs, j + 1 => jl rs j
def lW (aJ : List Rc) : List Edge → List Nat → List Nat
 | [], acc => acc
 | ⟨on, gr⟩ :: es, acc => cond (cN gr) (l8 (cW (on :: jl aJ on) acc) fun acc => lW aJ es acc) (lW aJ es acc)
def iN (i : Nat) : List Edge → Bool
 | [] => true
 | ⟨on, gr⟩ :: es => (Nat.blt on i || !cN gr) && iN i es

def stepT (C : Ctx) (ops : List Oper) (s : AS) (o : Oper) : Tr Ef := match o.guard with
 | none => bp C s o
 | some (j, want) => match bo ops j with
   | none => fail
   | some t => match lk s.tm t with
     | .bool b => cond want (gM b (bp C s o) (ret (pe (.tuple [])))) (gM b (ret (pe (.tuple []))) (bp C s o))
     | .tuple [] => ret (pe (.tuple []))
     | _ => fail

def eZ (C : Ctx) (ops : List Oper) (aJ : List Rc) (s : AS) (o : Oper) (e : Ef) : Rc :=
 ⟨o.dst, looks ops o, lW aJ o.after.toList [], e, s.sg.length, s.bz C (fg o.op), gm s.sg e.rd, ir o⟩
def qu (r : Rc) (K : Rc → Prop) : Prop := match r with
 | ⟨d, us, anc, e, n, ov, oo, lu⟩ => eM us fun us => eM anc fun anc => eL e fun e => bF ov fun ov => fA oo fun oo => K ⟨d, us, anc, e, n, ov, oo, lu⟩
@[simp] theorem sJ (r : Rc) (K : Rc → Prop) : qu r K = K r := by cases r; simp [qu, gj]

def mh (C : Ctx) (ops : List Oper) : List Oper → Nat → List Rc → AS → (AS → Prop) → Prop
 | [], _, _, s, K => K s
 | o :: rest, i, aJ, s, K => fi (cB s o.dst && iN i o.after.toList) (stepT C ops s o fun e =>
  eL e fun e => qu (eZ C ops aJ s o e) fun r => fi (lg r aJ 0) (eM (aJ ++ [r]) fun aJ => cJ s o.dst e fun s' => mh C ops rest (i + 1) aJ s' K))

def oI (s : AS) (t : Nat) (b : Bool) (k : AS → Prop) : Prop := match s with
 | ⟨nt, tm, sg, kl⟩ => k ⟨nt, (t, .bool b) :: tm, sg, kl⟩
def rP    (C : Ctx) (ops : List Oper) (s : AS) (o : Oper) (K : Ef → AS → Prop) : Prop := match o.guard with
 | none => bp C s o fun e => K e s
 | some (j, want) => match bo ops j with
   | none => False
   | some t => match lk s.tm t with
     | .bool b => cond want (bc b (oI s t true fun s => bp C s o fun e => K e s) (oI s t false fun s => K (pe (.tuple [])) s))
      (bc b (oI s t true fun s => K (pe (.tuple [])) s) (oI s t false fun s => bp C s o fun e => K e s))
     | .tuple [] => K (pe (.tuple [])) s
     | _ => False
def i7 (C : Ctx) (ops : List Oper) : List Oper → Nat → List Rc → AS → (AS → Prop) → Prop
 | [], _, _, s, K => K s
 | o :: rest, i, aJ, s, K => fi (cB s o.dst && iN i o.after.toList) (rP C ops s o fun e s =>
  eL e fun e => qu (eZ C ops aJ s o e) fun r => fi (lg r aJ 0) (eM (aJ ++ [r]) fun aJ => cJ s o.dst e fun s' => i7 C ops rest (i + 1) aJ s' K))

def fH : List Edge → List Nat
 | [] => []
 | ⟨on, gr⟩ :: es => cond (cN gr) (on :: fH es) (fH es)
def kQ (ops : List Oper) : Nat → List Nat → List Nat
 | 0, cl => cl
 | k + 1, cl => kQ ops k (cond (ay k cl) (match ops[k]? with | some o => fH o.after.toList ++ cl | none => cl) cl)
def nK (l : List Nat) : Nat → Bool
 | 0 => true
 | k + 1 => ay k l && nK l k
def Ctx.both (C : Ctx) : Ctx := { C with Γ := fun f a s => match C.Γ f a s with
 | some r => some r
 | none => C.gz.Γ f a s }
def tg (C : Ctx) (o : Oper) (c : Call) (K : Ex → AS → Prop) (s : AS) : Prop := match target C s c with
 | some (f, args) => match dg C.eX s.sg f args, dg C.gz s.sg f args with
   | some (p, e1), some (q, e2) => fi (cB s o.dst) ((p ∨ q) ∧ (p → lA s e1 fun u => K (.pan u)) ∧ (q → eL e2 fun e => cJ s o.dst e (K .norm)))
   | _, _ => False
 | none => False
def tL (C : Ctx) (f : FuncId) (d : Tmp) (s : AS) (K : Ex → AS → Prop) (s' : AS) : Prop := match dg C.eX s.sg f [lk s'.tm d] with
 | some (p, e1) => p ∧ lA ⟨s.nt, [], s.sg, s.kl⟩ e1 fun u => K (.pan u)
 | none => False
def fI : List Oper → Nat → Oper → List Oper
 | [], _, _ => []
 | _ :: os, 0, o => o :: os
 | p :: os, i + 1, o => p :: fI os i o
def qOp : Op → Bool
 | .move _ | .load _ _ | .fieldAddr _ _ _ | .field _ _ _ | .nilCheck _ => true
 | _ => false
def nb (i : Nat) : List Oper → Nat → Bool
 | [], _ => true
 | o :: os, k => (Nat.beq k i || qOp o.op) && nb i os (k + 1)
def mb (i d : Nat) : List Oper → Nat → Bool
 | [], _ => true
 | o :: os, k => (Nat.beq k i || (match o.dst with | some d' => !Nat.beq d' d | none => true)) && mb i d os (k + 1)
def nq (ops : List Oper) (i : Nat) : List Oper → Nat → Bool
 | [], _ => true
 | o :: os, n => ay i (kQ ops n (fH o.after.toList)) && nq ops i os (n + 1)
inductive vB (C : Ctx) (ops : List Oper) (s : AS) (K : Ex → AS → Prop) : Prop where
 | last (L : List Oper) (o : Oper) (c : Call) (hops : ops = L ++ [o]) (hc : o.op = .call c) (hg : o.guard = none) (he : iN L.length o.after.toList = true) (hb : nK (kQ ops L.length (fH o.after.toList)) L.length = true) (h : i7 C.both L L 0 [] s (tg C o c K))
 | pan (L T : List Oper) (i : Nat) (o : Oper) (x : Operand) (d : Tmp) (f : FuncId) (c : Call) (hops : ops = L ++ T) (hi : L[i]? = some o) (hc : o.op = .call c) (hcv : c.callee = .value (.func f)) (hca : c.args = #[x]) (hg : o.guard = none)
  (hd : o.dst = some d) (hq : nb i L 0 = true) (hu : mb i d L 0 = true) (ht : nq ops i T L.length = true) (h : i7 C.both (fI L i { o with op := .move x }) (fI L i { o with op := .move x }) 0 [] s (tL C f d s K))

def ve (s : AS) (n : Nat) : List (Nat × V) → Prop
 | [] => True
 | (t, x) :: r => (lk s.tm t = x ∧ x.dv n = true) ∧ ve s n r

def rQ : List Nat → List Nat → Bool
 | [], _ => true
 | k :: ks, l => ay k l && rQ ks l
structure Sub (n : Nat) (s t : AS) : Prop where
 nt : s.nt = t.nt
 tm : ve s t.sg.length t.tm
 sg : dH s.sg t.sg t.sg.length
 kl : rQ s.kl t.kl = true
 len : Nat.ble n t.sg.length = true

mutual
def V.wf : V → Prop
 | .int k n => k.min ≤ n ∧ n ≤ k.max
 | .str s => s.length ≤ maxLen
 | .list _ _ l => l.length ≤ maxLen ∧ V.bR l
 | .agg cs | .tuple cs | .box cs _ => V.bR cs
 | .iface _ x => V.wf x
 | _ => True
def V.bR : List V → Prop
 | [] => True
 | c :: cs => V.wf c ∧ V.bR cs
end
def O.wf : O → Prop
 | .cells cs => V.bR cs
 | .buf _ _ l => l.length ≤ maxLen ∧ V.bR l
 | .siter s _ => s.length ≤ maxLen
 | .map _ _ es bs _ => es.length = bs.length
 | _ => True
def iD : List (Nat × V) → List Nat → Prop
 | [], _ => True
 | (t, x) :: r, seen => (match ay t seen with
   | true => True
   | false => x.wf) ∧ iD r (t :: seen)
def eh : List O → Prop
 | [] => True
 | o :: os => o.wf ∧ eh os

def lr (s : AS) (c : Operand) (b : Bool) (K : AS → Prop) : Prop := match c, s with
 | .tmp t, ⟨nt, tm, sg, kl⟩ => K ⟨nt, (t, .bool b) :: tm, sg, kl⟩
 | _, s => K s

def ec (i j k : Nat) : Nat := cond (Nat.beq k i) j (cond (Nat.beq k j) i k)
def nf (f : Nat → Option Nat) : List (Nat × V) → List (Nat × V)
 | [] => []
 | (t, x) :: r => (t, x.aR f) :: nf f r
def swapAt (sg : List O) (i j : Nat) : List O := cS (cS sg i (ar sg j)) j (ar sg i)
def gZ : List V → Nat → V → List V
 | [], _, _ => []
 | _ :: xs, 0, y => y :: xs
 | x :: xs, n + 1, y => x :: gZ xs n y
mutual
def V.put (i : Nat) (y : V) (z : Nat → V) : V → V
 | .buf j => cond (Nat.beq j i) y (.buf j)
 | .agg cs => .agg (V.j9 i y z cs)
 | .tuple cs => .tuple (V.j9 i y z cs)
 | .iface t x => .iface t (V.put i y z x)
 | .func f a b => .func f (V.j9 i y z a) (V.j9 i y z b)
 | .undef => .undef | .int k n => .int k n | .bool b => .bool b | .str s => .str s | .list c z l => .list c z l
 | .nilptr => .nilptr | .box cs o => .box cs o | .nilIface => .nilIface | .nilFunc => .nilFunc | .nilmap => .nilmap
 | .ptr j o => cond (Nat.beq j i) (z o) (.ptr j o)
 | .bptr j a o => .bptr j a o | .map j => .map j
def V.j9 (i : Nat) (y : V) (z : Nat → V) : List V → List V
 | [] => []
 | c :: cs => V.put i y z c :: V.j9 i y z cs
end
def O.put (i : Nat) (y : V) (z : Nat → V) : O → O
 | .cells cs => .cells (V.j9 i y z cs)
 | .dead => .dead | .buf a b l => .buf a b l | .siter s p => .siter s p | .map a sh es bs ck => .map a sh es bs ck
 | .miter m bs ck l x => .miter (V.put i y z m) bs ck l x
def eY (i : Nat) (y : V) (z : Nat → V) : List O → List O
 | [] => []
 | o :: os => o.put i y z :: eY i y z os
def ke (i : Nat) (y : V) (z : Nat → V) : List (Nat × V) → List (Nat × V)
 | [] => []
 | (t, x) :: r => (t, V.put i y z x) :: ke i y z r
def AS.iw (s : AS) : dp → AS
 | .tm t sz => match lk s.tm t, sz with
   | .list true _ [], sz + 1 => ⟨s.nt, (t, .buf s.sg.length) :: s.tm, s.sg ++ [.buf (sz + 1) 0 []], s.kl⟩
   | _, _ => s
 | .cell i off sz => match ar s.sg i, sz with
   | .cells cs, sz + 1 => match gk cs off with
     | some (.list true _ []) => ⟨s.nt, s.tm, cS s.sg i (.cells (gZ cs off (.buf s.sg.length))) ++ [.buf (sz + 1) 0 []], s.kl⟩
     | _ => s
   | _, _ => s
 | .swap i j => match Nat.blt i s.sg.length && Nat.blt j s.sg.length with
   | true => ⟨s.nt, nf (fun k => some (ec i j k)) s.tm, fG (fun k => some (ec i j k)) (swapAt s.sg i j), i :: j :: s.kl⟩
   | false => s
 | .nw => ⟨s.nt, s.tm, s.sg ++ [.buf 1 0 []], s.kl⟩
 | .bD i => match ar s.sg i with
   | .buf sz _ l => ⟨s.nt, ke i (.list false sz l) (.ptr i) s.tm, cS (eY i (.list false sz l) (.ptr i) s.sg) i .dead, s.kl⟩
   | _ => s
 | .fbx i => match ar s.sg i with
   | .cells cs => cond (V.dO cs) ⟨s.nt, ke i (.buf i) (.box cs) s.tm, cS (eY i (.buf i) (.box cs) s.sg) i .dead, s.kl⟩ s
   | _ => s
def AS.bB (s : AS) : List dp → AS
 | [] => s
 | p :: ps => (s.iw p).bB ps

def sI (s : AS) (K : AS → Prop) : Prop := match s with
 | ⟨nt, tm, sg, kl⟩ => iT tm fun tm => fA sg fun sg => eM kl fun kl => K ⟨nt, tm, sg, kl⟩
@[simp] theorem IU (s : AS) (K : AS → Prop) : sI s K = K s := by cases s; simp [sI]
def qV (s : AS) (ps : List dp) (K : AS → Prop) : Prop := match ps with
 | [] => K s
 | p :: ps => sI (s.bB (p :: ps)) K
theorem tN (s : AS) (ps : List dp) (K : AS → Prop) : qV s ps K = K (s.bB ps) := by cases ps <;> simp [qV, AS.bB]

def nN (id : Nat) (K : Ex → AS → Prop) (e : Ex) (s : AS) : Prop := match e with
 | .exit j => match Nat.beq j id with
   | true => K .norm s
   | false => K (.exit j) s
 | e => K e s
inductive br (n : Nat) (s : AS) (R : AS → (Ex → AS → Prop) → Prop) (K : Ex → AS → Prop) : Prop where
 | mk (X : Type) (inv : X → Prop) (I : X → AS) (μ : X → Nat) (ps : List dp) (x0 : X) (h0 : inv x0) (hs : Sub n (s.bB ps) (I x0))
  (h : ∀ x, inv x → iD (I x).tm [] → eh (I x).sg → R (I x) (ki (fun s' => ∃ (qs : List dp) (x' : X), inv x' ∧ Sub n (s'.bB qs) (I x') ∧ μ x' < μ x) K))

def qw (l : Nat) (f : AS → Prop) (K : Ex → AS → Prop) (e : Ex) (s : AS) : Prop := match e with
 | .goto j => match Nat.beq j l with
   | true => f s
   | false => False
 | e => K e s
def k9 (K : Ex → AS → Prop) (e : Ex) (s : AS) : Prop := match e with
 | .goto _ => False
 | e => K e s
inductive kJ (n l : Nat) (s : AS) (R : AS → (Ex → AS → Prop) → Prop) (K : Ex → AS → Prop) : Prop where
 | mk (X : Type) (inv : X → Prop) (I : X → AS) (μ : X → Nat) (ps : List dp) (x0 : X) (h0 : inv x0) (hs : Sub n (s.bB ps) (I x0))
  (h : ∀ x, inv x → iD (I x).tm [] → eh (I x).sg → R (I x) (qw l (fun s' => ∃ (qs : List dp) (x' : X), inv x' ∧ Sub n (s'.bB qs) (I x') ∧ μ x' < μ x) K))

structure iF (n : Nat) (st0 : St) (g0 : ae) (st : St) (g : ae) (s : AS) : Prop where
 mono : ∀ b o v, st0 b o = some v → st b o = some v
 aO : ∀ i, i < n → ay i s.kl = false → g i = g0 i
 len : n ≤ s.sg.length
structure dS (E0 E : Env) : Prop where
 G : ∀ b, E.G b → E0.G b
 w0 : ∀ b, ¬ E0.G b → E.w0.heap[b]? = E0.w0.heap[b]?
 os : E.w0.os = E0.w0.os
 tape : E.w0.tape = E0.w0.tape
 output : E.w0.output = E0.w0.output
 size : E0.w0.heap.size ≤ E.w0.heap.size
 st0 : E.st0 = E0.st0
 gnew : ∀ b, E0.w0.heap.size ≤ b → E0.G b
 ds : ∃ Ds : List Nat, E.ds = Ds.map (fun D => { target := .collected D, args := #[] }) ++ E0.ds ∧ Ds.Nodup ∧ ∀ D ∈ Ds, E0.G D ∧ ¬ E.G D ∧ E.w0.heap[D]? = some (.deferred (some []))
abbrev YT : Type := List V → List O → List Nat → Option (Prop × V × List O × List Nat)
def s8 (C : Ctx) (E : Env) (n : Nat) (st0 : St) (g0 : ae) (l : Nat) (Y : YT) : Prop := ∀ args (s : AS) pre x sg' ks, Y args s.sg s.kl = some (pre, x, sg', ks) → pre → ∀ (st : St) (g : ae) (w : World) (vs : List Value), az E st g s.sg w → aE C.gl st → aq st g args s.sg.length vs → iF n st0 g0 st g s →
 YieldAt Fence.wide 0 C.P l vs.toArray w fun en w' => ∃ v st' g', en = .returned v ∧ az E st' g' sg' w' ∧ VR st' g' x sg'.length v ∧ fM E st g s.sg.length st' g' sg'.length ks
def SeqOK (C : Ctx) (gf : FuncId) (lb : List V) (σ : List O) (Y : YT) (r : List O) (ks : List Nat) : Prop :=
 hZ C.P gf ∧ ∀ (E : Env) (st : St) (g : ae) (w : World) (l : Nat) (vs : List Value), az E st g σ w → aE C.gl st → E.ds = [] → aq st g lb σ.length vs →
  (∀ E', dS E E' → s8 C E' σ.length st g l Y) →
  Calls C.P gf (.func (.yield l) #[] #[] :: vs).toArray w fun e w' => ∃ v st' g', e = .returned v ∧ az E st' g' r w' ∧ (∀ b o v, st b o = some v → st' b o = some v) ∧ σ.length ≤ r.length ∧ ∀ i, i < σ.length → ay i ks = false → g' i = g i
def nr (tm : List (Nat × V)) (kl : List Nat) : List (Nat × V) → Prop
 | [] => True
 | (t, x) :: r => (lk tm t = x ∧ x.kill kl = x) ∧ nr tm kl r
def qI (n : Nat) (ks : List Nat) : List Nat → Bool
 | [] => true
 | k :: kl => (ay k ks || Nat.ble n k) && qI n ks kl
def vE (n : Nat) (sg' : List O) (ks : List Nat) (s : AS) : Prop := ∃ ps : List dp, dH (s.bB ps).sg sg' sg'.length ∧ qI n ks (s.bB ps).kl = true ∧ n ≤ sg'.length
def eb : Code → Bool
 | .skip | .label _ | .exit _ | .ret | .goto _ => true
 | .region _ _ d => !d
 | .seq a b | .cond _ a b => eb a && eb b
 | .block _ a | .loop a => eb a
 | _ => false
def lZ : List Nat → List V → List (Nat × V) → List (Nat × V)
 | p :: ps, x :: xs, tm => lZ ps xs ((p, x) :: tm)
 | _, _, tm => tm
inductive s4 (C : Ctx) (s : AS) (g : Operand) (ps : Array Tmp) (A B : Nat → AS → (Ex → AS → Prop) → Prop) (K : Ex → AS → Prop) : Prop where
 | mk (ps0 : List dp) (gf : FuncId) (lb : List V) (Y : YT) (tmI tmE : List (Nat × V)) (r : List O) (ks : List Nat)
     (hyd : C.yd = fun _ _ _ _ => none) (hp : iH ps.toList s.nt = true) (hg : (s.bB ps0).ev C g = .func (.func gf) [] lb) (hseq : SeqOK C gf lb (s.bB ps0).sg Y r ks)
     (hround : ∀ args (s' : AS) pre y sg' ks', Y args s'.sg s'.kl = some (pre, y, sg', ks') → pre → V.bR args → eh s'.sg → ps.toList.length = args.length ∧ y = .bool true ∧ nr (s.bB ps0).tm s'.kl tmI ∧
      A s'.sg.length ⟨s.nt, lZ ps.toList args tmI, s'.sg, []⟩ (fun ex s1 => ex = .norm ∧ B s'.sg.length s1 (fun ex s2 => ex = .norm ∧ vE s'.sg.length sg' ks' s2)))
     (hend : nr (s.bB ps0).tm ks tmE ∧ K .norm ⟨s.nt, tmE, r, cW ks (s.bB ps0).kl⟩)

def vc (C : Ctx) (n : Nat) : Code → AS → (Ex → AS → Prop) → Prop
 | .skip, s, K => K .norm s
 | .label _, s, K => K .norm s
 | .region id ops false, s, K => qV s (C.hint id) fun s => dm C ops.toList false ops.toList s K
 | .region id ops true, s, K => qV s (C.hint id) fun s => cond (C.pdr id) (vB C ops.toList s K) (i7 C ops.toList ops.toList 0 [] s (K .norm))
 | .seq a b, s, K => vc C n a s (ki (fun s' => vc C n b s' K) K)
 | .cond c x y, s, K => match s.ev C c with
   | .bool b => bc b (lr s c true fun s => vc C n x s K) (lr s c false fun s => vc C n y s K)
   | _ => False
 | .block id c, s, K => vc C n c s (nN id K)
 | .loop c, s, K => br n s (vc C n c) K
 | .scope (.seq a (.seq (.label l) b)), s, K => match findLabel a l with
   | none => vc C n a s (ki (fun s' => kJ n l s' (vc C n b) K) (k9 K))
   | some _ => False
 | .scope c, s, K => vc C n c s (k9 K)
 | .exit id, s, K => K (.exit id) s
 | .goto l, s, K => K (.goto l) s
 | .ret, s, K => K .ret s
 | .rangeFunc g ps assign body, s, K => fi (eb assign && eb body) (s4 C s g ps (fun m => vc C m assign) (fun m => vc C m body) K)
 | _, _, _ => False

def jr : List V → Nat → List (Nat × V)
 | [], _ => []
 | x :: xs, i => (i, x) :: jr xs (i + 1)
def tM (agg : Bool) (size : Nat) (cs : List V) (off : Nat) : Option V := match agg with
 | true => match eE (fR cs off) size with
   | some r => some (.agg r)
   | none => none
 | false => gk cs off
def kh (  ti : TypeId → TI) (s : AS) : List ResultVar → Option (List V)
 | [] => some []
 | .tmp t :: r => match kh ti s r with
   | some xs => some (lk s.tm t :: xs)
   | none => none
 | .cell b t :: r => match lk s.tm b with
   | .ptr i off => match ar s.sg i with
     | .cells cs => match (ti t).k with
       | .other => none
       | k => match tM k.isAgg (ti t).size cs off, kh ti s r with
         | some x, some xs => some (x :: xs)
         | _, _ => none
     | _ => none
   | _ => none
def oW (ti : TypeId → TI) (s : AS) (rs : List ResultVar) : Option V := match kh ti s rs with
 | some [x] => some x
 | some xs => some (.tuple xs)
 | none => none

def jW (sg : List O) (aO : Bool) : List Nat → Bool
 | [] => true
 | k :: ks => (match ar sg k with
   | .buf _ _ _ => !aO
   | _ => Nat.ble sg.length k) && jW sg aO ks

def EndQ (ti : TypeId → TI) (rs : List ResultVar) (sg : List O) (x : V) (r : Option (List O)) (s : AS) : Prop := dx (oW ti s rs) fun y => match r with
 | none => y = x ∧ x.dv sg.length = true ∧ dH s.sg sg sg.length ∧ jW sg true s.kl = true
 | some sg' => y = x ∧ x.dv sg'.length = true ∧ dH s.sg sg' sg'.length ∧ jW sg (dL sg') s.kl = true ∧ Nat.ble sg.length sg'.length = true
inductive a7 (ti : TypeId → TI) (rs : List ResultVar) (sg : List O) (x : V) (r : Option (List O)) (s : AS) : Prop where
 | mk (ps : List dp) (h : EndQ ti rs sg x r (s.bB ps))
def Ends (ti : TypeId → TI) (rs : List ResultVar) (sg : List O) (x : V) (r : Option (List O)) (e : Ex) (s : AS) : Prop := match e with
 | .exit _ => False
 | .goto _ => False
 | .pan _ => False
 | _ => a7 ti rs sg x r s
def PanQ (sg : List O) (r : Option (List O)) (s : AS) : Prop := match r with
 | none => dH s.sg sg sg.length ∧ jW sg true s.kl = true
 | some sg' => dH s.sg sg' sg'.length ∧ jW sg (dL sg') s.kl = true ∧ Nat.ble sg.length sg'.length = true
inductive PanP (sg : List O) (r : Option (List O)) (s : AS) : Prop where
 | mk (ps : List dp) (h : PanQ sg r (s.bB ps))
end Go.VG
namespace Go.VG
open Go

def rY (P : Program) (t : TypeId) (sh : List Sc) : Prop := ∀ (st : St) (g : ae) (n : Nat) (cs ds : List V) (r : Bool) (a b : Array Value) (w : World),
 bK sh cs = true → bK sh ds = true → eqs cs ds = some r → cs.length = P.cellsOf t → aq st g cs n a.toList → aq st g ds n b.toList → (Op.equal t (.agg a) (.agg b)).run P w = .ok r w ∧ P.eqGuardType P.depth t = false

def nJ (P : Program) (k : TypeId) : Bool := match P.underlying k with
 | some (.struct _) | some (.array _ _) => true
 | _ => false
def pN (P : Program) (k : TypeId) (sh : List Sc) : Prop := WideMaps.KeyLaw P k ∧ ∀ x, fy (nJ P k) sh x = true → n5 x → ∃ l, keyOf P k (bV x) = some l
def TK.wV (P : Program) (t : TypeId) (sh : List Sc) : TK → Prop
 | .map k _ => pN P k sh
 | _ => rY P t sh
def TK.ok (P : Program) (t : TypeId) : TK → Prop
 | .bool => P.underlying t = some .bool
 | .int k => P.underlying t = some (.int k)
 | .string => P.underlying t = some .string
 | .slice e => P.underlying t = some (.slice e)
 | .array n e => P.underlying t = some (.array n e)
 | .ptr e => P.underlying t = some (.pointer e)
 | .struct fs => ∃ fields, P.underlying t = some (.struct fields) ∧ fields.toList.map (fun f => (f.offset, f.type)) = fs ∧ (fields.toList.mapM (fun f => (P.info? f.type).map fun i => (f.offset, i.size))).isSome = true
 | .iface => ∃ ms, P.underlying t = some (.interface ms)
 | .func => ∃ a b c, P.underlying t = some (.func a b c)
 | .map k e => P.underlying t = some (.map k e)
 | .other => False

def av (P : Program) (t : TypeId) (i : TI) : Prop := match i.k with
 | .other => True
 | k => k.ok P t ∧ (∃ info, P.info? t = some info ∧ info.size = i.size ∧ info.bytes = i.bytes ∧ ∃ z, info.zero = some z ∧ ∀ (st : St) (g : ae) (n : Nat), VR st g i.zero n z) ∧
  (i.feq ≠ [] → i.k.wV P t i.feq)

theorem av.of {P : Program} {t : TypeId} {i : TI} (h : av P t i) (hk : i.k ≠ .other) : i.k.ok P t ∧ (∃ info, P.info? t = some info ∧ info.size = i.size ∧ info.bytes = i.bytes ∧ ∃ z, info.zero = some z ∧ ∀ (st : St) (g : ae) (n : Nat), VR st g i.zero n z) ∧
     (i.feq ≠ [] → i.k.wV P t i.feq) := by
 unfold av at h
 split at h
 . contradiction
 . exact h

section
variable {P : Program} {t : TypeId} {i : TI} (w : World)

theorem dY (h : av P t i) (hk : i.k ≠ .other) : (sizeOf t).run P w = .ok i.size w := by
 obtain ⟨_, ⟨info, h1, h2, _⟩, _⟩ := h.of hk
 simp [sizeOf, typeInfo, h1, h2]
theorem sn (h : av P t i) (hk : i.k ≠ .other) : P.cellsOf t = i.size := by
 obtain ⟨_, ⟨info, h1, h2, _⟩, _⟩ := h.of hk
 simp [Program.cellsOf, h1, h2]
theorem tW (h : av P t i) (hk : i.k ≠ .other) : ∃ z, (zeroValue t).run P w = .ok z w ∧ ∀ (st : St) (g : ae) (n : Nat), VR st g i.zero n z := by
 obtain ⟨_, ⟨info, h1, h2, _, z, h4, h5⟩, _⟩ := h.of hk
 exact ⟨z, by simp [zeroValue, typeInfo, h1, h4], h5⟩
theorem qZ (h : av P t i) (hk : i.k ≠ .other) : (isAgg t).run P w = .ok i.k.isAgg w := by
 obtain ⟨h1, _, _⟩ := h.of hk
 cases hk' : i.k <;> rw [hk'] at h1 <;> simp only [TK.ok] at h1
 case struct fs => obtain ⟨f, h1, _⟩ := h1; simp [isAgg, run_underlying h1, TK.isAgg]
 case iface => obtain ⟨f, h1⟩ := h1; simp [isAgg, run_underlying h1, TK.isAgg]
 case func => obtain ⟨a, b, c, h1⟩ := h1; simp [isAgg, run_underlying h1, TK.isAgg]
 all_goals simp [isAgg, run_underlying h1, TK.isAgg]
end

theorem qv : ∀ (xs : List V) (n : Nat), gk xs n = xs[n]?
 | [], n => by cases n <;> simp [gk]
 | x :: xs, 0 => by simp [gk]
 | x :: xs, n + 1 => by simp [gk, qv xs n]
theorem qg : ∀ (xs : List V) (n : Nat), fR xs n = xs.drop n
 | xs, 0 => by simp [fR]
 | [], n + 1 => by simp [fR]
 | x :: xs, n + 1 => by simp [fR, qg xs n]
theorem vi : ∀ {xs : List V} {n : Nat} {r : List V}, eE xs n = some r → r = xs.take n ∧ n ≤ xs.length
 | xs, 0, r, h => by simp [eE] at h; simp [h]
 | [], n + 1, r, h => by simp [eE] at h
 | x :: xs, n + 1, r, h => by
   simp only [eE] at h
   split at h
   . rename_i r' hr
     obtain ⟨h1, h2⟩ := vi hr
     cases h
     subst h1
     exact ⟨by simp, by simpa using h2⟩
   . cases h
def over {α : Type} (xs : List α) (o : Nat) (ys : List α) : List α := xs.take o ++ ys ++ xs.drop (o + ys.length)
theorem p6 : ∀ {xs : List V} {o : Nat} {ys r : List V}, fe xs o ys = some r → r = over xs o ys ∧ (ys = [] ∨ o + ys.length ≤ xs.length)
 | xs, o, [], r, h => by simp [fe] at h; simp [over, h]
 | [], _, _ :: _, r, h => by simp [fe] at h
 | x :: xs, 0, y :: ys, r, h => by
   simp only [fe] at h
   split at h
   . rename_i r' hr
     obtain ⟨h1, h2⟩ := p6 hr
     cases h
     subst h1
     refine ⟨by simp [over], .inr ?_⟩
     rcases h2 with rfl | h2
     . simp
     . simpa using h2
   . cases h
 | x :: xs, n + 1, y :: ys, r, h => by
   simp only [fe] at h
   split at h
   . rename_i r' hr
     obtain ⟨h1, h2⟩ := p6 hr
     cases h
     subst h1
     refine ⟨?_, .inr ?_⟩
     . simp only [over, List.take_succ_cons, List.cons_append]
       rw [show n + 1 + (y :: ys).length = (n + (y :: ys).length) + 1 by omega, List.drop_succ_cons]
     . rcases h2 with h2 | h2
       . cases h2
       . simp at h2 ⊢; omega
   . cases h

theorem iv {α : Type} {xs : List α} {o : Nat} {ys : List α} (h : ys = [] ∨ o + ys.length ≤ xs.length) : (over xs o ys).length = xs.length := by
 rcases h with rfl | h
 . simp [over]
 . simp [over]; omega

theorem s7 {st : St} {g : ae} {n o : Nat} {cs ds : List V} {vs us : List Value} (h : aq st g cs n vs) (k : aq st g ds n us) : aq st g (over cs o ds) n (over vs o us) := by
 unfold over
 rw [← dk k]
 exact kL (kL (nI h) k) (nF h)

theorem cO : ∀ {sg : List O} {i : Nat} {o : O}, ar sg i = o → o ≠ .dead → sg[i]? = some o ∧ i < sg.length
 | [], i, o, h, hn => by simp [ar] at h; exact absurd h.symm hn
 | p :: ps, 0, o, h, hn => by simp [ar] at h; simp [h]
 | p :: ps, i + 1, o, h, hn => by
   simp only [ar] at h
   obtain ⟨h1, h2⟩ := cO h hn
   exact ⟨by simpa using h1, by simpa using h2⟩
theorem y7 (ks : List Nat) : ∀ sg : List O, qG ks sg = sg.map (O.kill ks)
 | [] => rfl
 | o :: os => by simp [qG, y7 ks os]
theorem dZ : ∀ (sg : List O) (i : Nat) (o : O), cS sg i o = sg.set i o
 | [], i, o => by simp [cS]
 | p :: ps, 0, o => by simp [cS]
 | p :: ps, i + 1, o => by simp [cS, dZ ps i o]
mutual
theorem dM : ∀ (x : V), x.kill [] = x
 | .undef | .int .. | .bool _ | .str _ | .list .. | .nilptr | .box .. | .nilIface | .nilFunc | .nilmap | .ptr .. | .bptr .. | .buf _ | .map _ => by simp [V.kill, ay]
 | .agg cs | .tuple cs => by simp [V.kill, oA cs]
 | .iface t x => by simp [V.kill, dM x]
 | .func f a b => by simp [V.kill, oA a, oA b]
theorem oA : ∀ (x : List V), V.cR [] x = x
 | [] => by simp [V.cR]
 | c :: cs => by simp [V.cR, dM c, oA cs]
end
theorem FR (o : O) : o.kill [] = o := by cases o <;> simp [O.kill, oA, dM]
theorem oy (ks : List Nat) (sg : List O) : fD ks sg = sg.map (O.kill ks) := by
 cases ks with
 | nil => simp only [fD]; rw [show (O.kill []) = id from funext FR]; simp
 | cons k ks => simp [fD, y7]
theorem sb (a b : List O) : ep a b = a ++ b := by cases b <;> simp [ep]

theorem yo (ks : List Nat) : ∀ (tm : List (Nat × V)) (t : Nat), lk (oC ks tm) t = (lk tm t).kill ks
 | [], t => by simp [oC, lk, V.kill]
 | (k, x) :: r, t => by
   simp only [oC, lk]
   cases Nat.beq k t <;> simp [yo ks r t]
theorem j4 (ks : List Nat) (tm : List (Nat × V)) (t : Nat) : lk (eT ks tm) t = (lk tm t).kill ks := by
 cases ks with
 | nil => simp [eT, dM]
 | cons k ks => simp [eT, yo]

theorem fN {st : St} {g : ae} {x : V} {n : Nat} {v : Value} (h : VR st g x n v) (hu : x.d5 = false) : aq st g x.cells n v.cells.toList := by
 cases x <;> first
  | (simp [V.d5] at hu; done)
  | (simp only [VR] at h
     first
      | (obtain ⟨vs, rfl, h⟩ := h; exact h)
      | (rename_i cs; obtain ⟨vs, rfl, h⟩ := h; simp only [V.cells, Value.cells]; refine b7 ?_ bZ; simp only [VR]; exact ⟨vs, rfl, h⟩))
  | skip
 all_goals (
  have h' := h
  simp only [VR] at h
  first
   | (subst h; simp only [V.cells, Value.cells]; exact b7 h' bZ)
   | (obtain ⟨rfl, _⟩ := h; simp only [V.cells, Value.cells]; exact b7 h' bZ)
   | (obtain ⟨_, _, rfl, _⟩ := h; simp only [V.cells, Value.cells]; exact b7 h' bZ)
   | (obtain ⟨_, _, _, rfl, _⟩ := h; simp only [V.cells, Value.cells]; exact b7 h' bZ)
   | (obtain ⟨_, _, _, rfl⟩ := h; simp only [V.cells, Value.cells]; exact b7 h' bZ)
   | skip)

end Go.VG
