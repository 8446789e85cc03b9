/-
  A part of the proof.
-/
import Derived.Test.YtipejldppicijaaGreatDoorVgA
import Derived.WideKeyMaps
import Derived.WideKeyEntry
set_option linter.unusedSimpArgs false
set_option linter.unusedVariables false
namespace Go.VG
open Go

inductive Ex where
 | norm | exit (id : Nat) | ret | goto (l : Nat) | pan (v : Value)
def jY (f : AS → Prop) (K : Ex → AS → Prop) (e : Ex) (s : AS) : Prop := match e with
 | .norm => f s
 | e => K e s

def AS.put (s : AS) (d : Option Nat) (v : V) : AS := ⟨s.nt, match d with
 | some d => (d, v) :: s.tm
 | none => s.tm, s.sg, s.kl⟩

def AS.back (s : AS) (d : Option Nat) (x : V) (sg : List O) (ks : List Nat) : AS :=
 ⟨s.nt, match d with
  | some d => (d, x) :: eQ ks s.tm
  | none => eQ ks s.tm, sg, d7 ks s.kl⟩

def iH (s : AS) (d : Option Nat) (x : V) (sg : List O) (ks : List Nat) (K : AS → Prop) : Prop := match s, d with
 | ⟨nt, tm, _, kl⟩, some d => eM x fun x => iT (eQ ks tm) fun tm => fB sg fun sg => eO (d7 ks kl) fun kl => K ⟨nt, (d, x) :: tm, sg, kl⟩
 | ⟨nt, tm, _, kl⟩, none => iT (eQ ks tm) fun tm => fB sg fun sg => eO (d7 ks kl) fun kl => K ⟨nt, tm, sg, kl⟩
@[simp] theorem Ah (s : AS) (d : Option Nat) (x : V) (sg : List O) (ks : List Nat) (K : AS → Prop) : iH s d x sg ks K = K (s.back d x sg ks) := by
 obtain ⟨nt, tm, sg', kl⟩ := s
 cases d <;> simp [iH, AS.back, jE]

def cI (s : AS) : Option Nat → Bool
 | some d => Nat.blt d s.nt
 | none => true

def br : List Oper → Nat → Option Nat
 | [], _ => none
 | o :: _, 0 => o.dst
 | _ :: os, j + 1 => br os j

def iE (P : Program) (f : FuncId) : Prop := ∃ fn, P.funcs[f]? = some fn ∧ (fn.name == "runtime.NumGoroutine") = false ∧ fn.body.isNone = false

def aF (gl : Nat → Option (List V)) (st : St) : Prop := ∀ b cs, gl b = some cs → ∀ g : aa, ∃ vs, al st g cs 0 vs ∧ ∀ j, j < vs.length → st b j = vs[j]?

structure fK (E : Env) (st : St) (g : aa) (n : Nat) (st' : St) (g' : aa) (n' : Nat) (ks : List Nat) : Prop where
 mono : ∀ b o v, st b o = some v → st' b o = some v
 aO : ∀ i, i < n → aw i ks = false → g' i = g i
 len : n ≤ n'

def uG (C : Ctx) (f : FuncId) (args : List V) (sg : List O) (K : V → List O → List Nat → Prop) : Prop :=
 iE C.P f ∧ ∀ (E : Env) (st : St) (g : aa) (w : World) (vs : List Value), ay E st g sg w → aF C.gl st → al st g args sg.length vs →
  Calls C.P f vs.toArray w fun e w' => ∃ v x sg' ks st' g', e = .returned v ∧ ay E st' g' sg' w' ∧ VR st' g' x sg'.length v ∧ fK E st g sg.length st' g' sg'.length ks ∧ K x sg' ks

def yieldOf (C : Ctx) (s : AS) (c : Call) : Option (Nat × List V) :=
 match c.callee with
 | .value x => match s.ev C x with
   | .func (.yield l) [] [] => some (l, s.bF C c.args.toList)
   | _ => none
 | _ => none
def pV    (C : Ctx) (s : AS) (x : Operand) (d : Option Nat) (K : Ef → AS → Prop) : Prop := match s.ev C x with
 | .ptr k 0 => match aq s.sg k with
   | .miter (.map i) bs ck left _ => match aq s.sg i with
     | .map _ _ _ bs' ck' => (bs' = bs ∧ ck' = ck) ∧ (left = [] → cN s d ⟨.tuple [.bool false], [], [], [], [k, i]⟩ fun s' => K ⟨.tuple [.bool false], [], [], [], [k, i]⟩ s') ∧
      (∀ j, j ∈ left → cN s d ⟨.tuple [.bool true, .undef, .undef], [], [(k, .miter (.map i) bs ck (left.erase j) j)], [], [k, i]⟩ fun s' => K ⟨.tuple [.bool true, .undef, .undef], [], [(k, .miter (.map i) bs ck (left.erase j) j)], [], [k, i]⟩ s')
     | _ => False
   | _ => False
 | _ => False
def l0 (s : AS) (e : Ef) (X : Value → AS → Prop) : Prop := eN e fun e => dE (gP e.v) fun u => cN s none ⟨.undef, e.ks, e.up, e.nw, e.rd⟩ (X u)
def w7 (C : Ctx) (ops : List Oper) (o : Oper) (s : AS) (R : Ex → AS → Prop) : Prop :=
 fi (cI s o.dst) (match o.guard with
 | none => go s
 | some (j, want) => match br ops j with
   | none => False
   | some t => match lk s.tm t with
     | .bool b => bd b (cond want (run' (.bool true) t) (skip (.bool true) t)) (cond want (skip (.bool false) t) (run' (.bool false) t))
     | .tuple [] => skip (.tuple []) t
     | _ => False)
where
 go (s : AS) : Prop := match o.op with
   | .call c => match target C s c with
     | some (f, args) => match dh C s.sg f args with
       | some (pre, e) => pre ∧ eN e fun e => cN s o.dst e (R .norm)
       | none => match dh C.eT s.sg f args, dh C.gq s.sg f args with
         | some (p, e1), some (q, e2) => (p ∨ q) ∧ (p → l0 s e1 fun u => R (.pan u)) ∧ (q → eN e2 fun e => cN s o.dst e (R .norm))
         | _, _ => uG C f args s.sg fun x sg ks => iH s o.dst x sg ks (R .norm)
     | none => match yieldOf C s c with
       | some (l, args) => match C.yd l args s.sg s.kl with
         | some (pre, x, sg', ks) => pre ∧ iH s o.dst x sg' ks (R .norm)
         | none => False
       | none => bC C s o fun e => cN s o.dst e (R .norm)
   | .next x false => pV C s x o.dst fun _ s' => R .norm s'
   | .panic x => dE (gP (s.ev C x)) fun u => R (.pan u) s
   | _ => bC C s o fun e => cN s o.dst e (R .norm)
 run' (b : V) (t : Nat) : Prop := cN s (some t) (pe b) go
 skip (b : V) (t : Nat) : Prop := cN s (some t) (pe b) fun s => cN s o.dst (pe (.tuple [])) (R .norm)

def pT (C : Ctx) (ops : List Oper) (o : Oper) (rest : List Oper) : Option (Nat × Nat) := match o.op, o.dst, rest with
  | .buildSlice t _ _, some d, o2 :: _ => match o2.op, o2.dst, (C.ti t).k with
    | .convert a b (.tmp d'), some d2, .slice e => match (C.ti e).k with
      | .int .u8 => cond (Nat.beq a t && Nat.beq b t && Nat.beq d d' && !C.lits d) (match o.guard, o2.guard with
        | none, none => some (d, d2)
        | some (j, x), some (j', x') => match br ops j with
          | some u => cond (Nat.beq j j' && Bool.and (x == x') (!Nat.beq u d)) (some (d, d2)) none
          | none => none
        | _, _ => none) none
      | _ => none
    | _, _, _ => none
  | _, _, _ => none
def eo (s : AS) (p : Option (Nat × Nat)) (K : Bool → AS → Prop) : Prop := match p with
 | none => K false s
 | some (d, d2) => fi (Nat.blt d2 s.nt) (eM (lk s.tm d) fun x => K true (s.put (some d2) x))

def dr (C : Ctx) (ops : List Oper) : Bool → List Oper → AS → (Ex → AS → Prop) → Prop
 | _, [], s, K => K .norm s
 | true, _ :: rest, s, K => dr C ops false rest s K
 | false, o :: rest, s, K => w7 C ops o s (jY (fun s' => eo s' (pT C ops o rest) fun b s'' => dr C ops b rest s'' K) K)

def dA (C : Ctx) (ops : List Oper) (o : Oper) (s : AS) (K : Ef → AS → Prop) (U : AS → V → List O → List Nat → Prop) (X : Value → AS → Prop) : Prop :=
 fi (cI s o.dst) (match o.guard with
 | none => run
 | some (j, want) => match br ops j with
   | none => False
   | some t => match lk s.tm t with
     | .bool b => bd b (cond want (run' (.bool true) t) (skip (.bool true) t)) (cond want (skip (.bool false) t) (run' (.bool false) t))
     | .tuple [] => skip (.tuple []) t
     | _ => False)
where
 go (s : AS) : Prop := match o.op with
   | .call c => match target C s c with
     | some (f, args) => match dh C s.sg f args with
       | some (pre, e) => pre ∧ eN e fun e => cN s o.dst e fun s' => K e s'
       | none => match dh C.eT s.sg f args, dh C.gq s.sg f args with
         | some (p, e1), some (q, e2) => (p ∨ q) ∧ (p → l0 s e1 X) ∧ (q → eN e2 fun e => cN s o.dst e fun s' => K e s')
         | _, _ => uG C f args s.sg (U s)
     | none => match yieldOf C s c with
       | some (l, args) => match C.yd l args s.sg s.kl with
         | some (pre, x, sg', ks) => pre ∧ U s x sg' ks
         | none => False
       | none => bC C s o fun e => cN s o.dst e fun s' => K e s'
   | .next x false => pV C s x o.dst K
   | .panic x => dE (gP (s.ev C x)) fun u => X u s
   | _ => bC C s o fun e => cN s o.dst e fun s' => K e s'
 run : Prop := go s
 run' (b : V) (t : Nat) : Prop := cN s (some t) (pe b) fun s => go s
 skip (b : V) (t : Nat) : Prop := cN s (some t) (pe b) fun s => cN s o.dst (pe (.tuple [])) fun s' => K (pe (.tuple [])) s'

theorem Br (C : Ctx) (ops : List Oper) (o : Oper) (s : AS) (f : AS → Prop) (K : Ex → AS → Prop) : w7 C ops o s (jY f K) = dA C ops o s (fun _ s' => f s') (fun s x sg ks => iH s o.dst x sg ks f) (fun u s' => K (.pan u) s') := rfl

def j0 : Option Operand → List Operand
 | some x => [x]
 | none => []
def nY : List (Nat × Operand) → List Operand
 | [] => []
 | (_, x) :: r => x :: nY r
def fg : Op → List Operand
 | .move x | .assign x | .box _ x | .load _ x | .nilCheck x | .unOp _ _ x | .convert _ _ x | .makeInterface _ x | .fieldAddr _ x _ | .field _ x _ | .range _ x | .next x _ | .typeAssert x _ _ _ | .extract x _ => [x]
 | .pick c a b => [c, a, b]
 | .makeMap _ r => j0 r
 | .lookup _ a b _ | .mapEntry _ a b => [a, b]
 | .mapUpdate _ a b c | .entryStore _ a b c => [a, b, c]
 | .entry x => [x]
 | .build _ ps | .buildSlice _ _ ps => nY ps.toList
 | .store _ a v | .binOp _ _ a v _ | .makeSlice _ a v | .indexAddr _ a v | .index _ a v => [a, v]
 | .makeFunc _ a b => a.toList ++ b.toList
 | .slice _ x lo hi mx => x :: (j0 lo ++ (j0 hi ++ j0 mx))
 | .call c => match c.callee with
   | .value f => f :: c.args.toList
   | .invoke r _ => r :: c.args.toList
   | .builtin _ => c.args.toList
 | _ => []
def tmpsOf : List Operand → List Nat
 | [] => []
 | .tmp t :: r => t :: tmpsOf r
 | _ :: r => tmpsOf r
def m6 (ops : List Oper) : Option (Nat × Bool) → List Nat
 | none => []
 | some (j, _) => match br ops j with
   | some t => [t]
   | none => []
def looks (ops : List Oper) (o : Oper) : List Nat := tmpsOf (fg o.op) ++ m6 ops o.guard

mutual
def V.free (ks : List Nat) : V → Bool
 | .ptr j _ | .bptr j _ _ | .buf j | .map j => !aw j ks
 | .agg cs | .tuple cs => V.hZ ks cs
 | .iface _ x => V.free ks x
 | .func _ fs cs => V.hZ ks fs && V.hZ ks cs
 | _ => true
def V.hZ (ks : List Nat) : List V → Bool
 | [] => true
 | c :: cs => V.free ks c && V.hZ ks cs
end
mutual
def V.jc : V → Bool
 | .undef => false
 | .agg cs | .tuple cs => V.iu cs
 | .iface _ x => V.jc x
 | .func _ fs cs => V.iu fs && V.iu cs
 | _ => true
def V.iu : List V → Bool
 | [] => true
 | c :: cs => V.jc c && V.iu cs
end
def jH (ks : List Nat) : List O → Bool
 | [] => true
 | .cells cs :: os => V.hZ ks cs && jH ks os
 | .miter m _ _ _ _ :: os => V.free ks m && jH ks os
 | _ :: os => jH ks os
def ke : List O → Bool
 | [] => true
 | .cells cs :: os => V.iu cs && ke os
 | .miter m _ _ _ _ :: os => V.jc m && ke os
 | .dead :: _ => false
 | _ :: os => ke os
def gd (sg : List O) : List Nat → List O
 | [] => []
 | i :: is => aq sg i :: gd sg is

structure Rc where
 d : Option Nat
 us : List Nat
 anc : List Nat
 e : Ef
 n : Nat
 ov : List V
 oo : List O
 lu : Nat × List Nat

def quiet (e : Ef) : Bool := match e with
 | ⟨_, [], [], [], _⟩ => true
 | _ => false
def nd (d : Option Nat) (us : List Nat) : Bool := match d with
 | some d => !aw d us
 | none => true
def vL : Option Nat → Option Nat → Bool
 | some a, some b => !Nat.beq a b
 | _, _ => true
def mZ : List (Nat × O) → List Nat → Bool
 | [], _ => true
 | (i, _) :: r, rd => !aw i rd && mZ r rd
def iF : List Nat → Nat → Bool
 | [], _ => true
 | i :: is, n => Nat.blt i n && iF is n
def i9 (o : Oper) : Nat × List Nat := match o.guard, o.op with
 | none, .lookup t (.tmp m) (.tmp x) false => (1, [t, m, x])
 | none, .mapEntry t (.tmp m) (.tmp x) => (2, [t, m, x])
 | _, _ => (0, [])
def ph : List Nat → List Nat → Bool
 | [], [] => true
 | a :: r, b :: q => Nat.beq a b && ph r q
 | _, _ => false
def nX (j i : Rc) : Bool := Nat.beq j.lu.1 1 && (Nat.beq i.lu.1 2 && ph j.lu.2 i.lu.2)
def indep (j i : Rc) : Bool :=
 nd j.d i.us && nd i.d j.us && vL i.d j.d && (nX j i ||
 match quiet j.e, quiet i.e with
  | true, true => true
  | true, false => V.hZ i.e.ks j.ov && jH i.e.ks j.oo && V.free i.e.ks j.e.v && mZ i.e.up j.e.rd && iF j.e.rd i.n
  | false, true => V.iu i.ov && ke i.oo && V.free j.e.ks i.e.v && mZ j.e.up i.e.rd && iF i.e.rd j.n
  | false, false => false)
def kP (i : Rc) : List Rc → Nat → Bool
 | [], _ => true
 | j :: js, k => (aw k i.anc || indep j i) && kP i js (k + 1)

def cP : Ground → Bool
 | .textOnly _ | .gcOnly _ => false
 | _ => true
def jg : List Rc → Nat → List Nat
 | [], _ => []
 | r :: _, 0 => r.anc
 | _ :: rs, j + 1 => jg rs j
def lD (aL : List Rc) : List Edge → List Nat → List Nat
 | [], acc => acc
 | ⟨on, gr⟩ :: es, acc => cond (cP gr) (kL (d7 (on :: jg aL on) acc) fun acc => lD aL es acc) (lD aL es acc)
def iM (i : Nat) : List Edge → Bool
 | [] => true
 | ⟨on, gr⟩ :: es => (Nat.blt on i || !cP gr) && iM i es

def stepT (C : Ctx) (ops : List Oper) (s : AS) (o : Oper) : Tr Ef := match o.guard with
 | none => bC C s o
 | some (j, want) => match br ops j with
   | none => fail
   | some t => match lk s.tm t with
     | .bool b => cond want (gE b (bC C s o) (ret (pe (.tuple [])))) (gE b (ret (pe (.tuple []))) (bC C s o))
     | .tuple [] => ret (pe (.tuple []))
     | _ => fail

def eV (C : Ctx) (ops : List Oper) (aL : List Rc) (s : AS) (o : Oper) (e : Ef) : Rc :=
 ⟨o.dst, looks ops o, lD aL o.after.toList [], e, s.sg.length, s.bF C (fg o.op), gd s.sg e.rd, i9 o⟩
def pB (r : Rc) (K : Rc → Prop) : Prop := match r with
 | ⟨d, us, anc, e, n, ov, oo, lu⟩ => eO us fun us => eO anc fun anc => eN e fun e => bM ov fun ov => fB oo fun oo => K ⟨d, us, anc, e, n, ov, oo, lu⟩
@[simp] theorem s6 (r : Rc) (K : Rc → Prop) : pB r K = K r := by cases r; simp [pB, ga]

def lO (C : Ctx) (ops : List Oper) : List Oper → Nat → List Rc → AS → (AS → Prop) → Prop
 | [], _, _, s, K => K s
 | o :: rest, i, aL, s, K => fi (cI s o.dst && iM i o.after.toList) (stepT C ops s o fun e =>
  eN e fun e => pB (eV C ops aL s o e) fun r => fi (kP r aL 0) (eO (aL ++ [r]) fun aL => cN s o.dst e fun s' => lO C ops rest (i + 1) aL s' K))

def nQ (s : AS) (t : Nat) (b : Bool) (k : AS → Prop) : Prop := match s with
 | ⟨nt, tm, sg, kl⟩ => k ⟨nt, (t, .bool b) :: tm, sg, kl⟩
def qW    (C : Ctx) (ops : List Oper) (s : AS) (o : Oper) (K : Ef → AS → Prop) : Prop := match o.guard with
 | none => bC C s o fun e => K e s
 | some (j, want) => match br ops j with
   | none => False
   | some t => match lk s.tm t with
     | .bool b => cond want (bd b (nQ s t true fun s => bC C s o fun e => K e s) (nQ s t false fun s => K (pe (.tuple [])) s))
      (bd b (nQ s t true fun s => K (pe (.tuple [])) s) (nQ s t false fun s => bC C s o fun e => K e s))
     | .tuple [] => K (pe (.tuple [])) s
     | _ => False
def hJ (C : Ctx) (ops : List Oper) : List Oper → Nat → List Rc → AS → (AS → Prop) → Prop
 | [], _, _, s, K => K s
 | o :: rest, i, aL, s, K => fi (cI s o.dst && iM i o.after.toList) (qW C ops s o fun e s =>
  eN e fun e => pB (eV C ops aL s o e) fun r => fi (kP r aL 0) (eO (aL ++ [r]) fun aL => cN s o.dst e fun s' => hJ C ops rest (i + 1) aL s' K))

def fG : List Edge → List Nat
 | [] => []
 | ⟨on, gr⟩ :: es => cond (cP gr) (on :: fG es) (fG es)
def ku (ops : List Oper) : Nat → List Nat → List Nat
 | 0, cl => cl
 | k + 1, cl => ku ops k (cond (aw k cl) (match ops[k]? with | some o => fG o.after.toList ++ cl | none => cl) cl)
def mY (l : List Nat) : Nat → Bool
 | 0 => true
 | k + 1 => aw k l && mY l k
def Ctx.both (C : Ctx) : Ctx := { C with Γ := fun f a s => match C.Γ f a s with
 | some r => some r
 | none => C.gq.Γ f a s }
def sy (C : Ctx) (o : Oper) (c : Call) (K : Ex → AS → Prop) (s : AS) : Prop := match target C s c with
 | some (f, args) => match dh C.eT s.sg f args, dh C.gq s.sg f args with
   | some (p, e1), some (q, e2) => fi (cI s o.dst) ((p ∨ q) ∧ (p → l0 s e1 fun u => K (.pan u)) ∧ (q → eN e2 fun e => cN s o.dst e (K .norm)))
   | _, _ => False
 | none => False
def sP (C : Ctx) (f : FuncId) (d : Tmp) (s : AS) (K : Ex → AS → Prop) (s' : AS) : Prop := match dh C.eT s.sg f [lk s'.tm d] with
 | some (p, e1) => p ∧ l0 ⟨s.nt, [], s.sg, s.kl⟩ e1 fun u => K (.pan u)
 | none => False
def fI : List Oper → Nat → Oper → List Oper
 | [], _, _ => []
 | _ :: os, 0, o => o :: os
 | p :: os, i + 1, o => p :: fI os i o
def qOp : Op → Bool
 | .move _ | .load _ _ | .fieldAddr _ _ _ | .field _ _ _ | .nilCheck _ => true
 | _ => false
def mw (i : Nat) : List Oper → Nat → Bool
 | [], _ => true
 | o :: os, k => (Nat.beq k i || qOp o.op) && mw i os (k + 1)
def lK (i d : Nat) : List Oper → Nat → Bool
 | [], _ => true
 | o :: os, k => (Nat.beq k i || (match o.dst with | some d' => !Nat.beq d' d | none => true)) && lK i d os (k + 1)
def mM (ops : List Oper) (i : Nat) : List Oper → Nat → Bool
 | [], _ => true
 | o :: os, n => aw i (ku ops n (fG o.after.toList)) && mM ops i os (n + 1)
inductive uH (C : Ctx) (ops : List Oper) (s : AS) (K : Ex → AS → Prop) : Prop where
 | last (L : List Oper) (o : Oper) (c : Call) (hops : ops = L ++ [o]) (hc : o.op = .call c) (hg : o.guard = none) (he : iM L.length o.after.toList = true) (hb : mY (ku ops L.length (fG o.after.toList)) L.length = true) (h : hJ C.both L L 0 [] s (sy C o c K))
 | pan (L T : List Oper) (i : Nat) (o : Oper) (x : Operand) (d : Tmp) (f : FuncId) (c : Call) (hops : ops = L ++ T) (hi : L[i]? = some o) (hc : o.op = .call c) (hcv : c.callee = .value (.func f)) (hca : c.args = #[x]) (hg : o.guard = none)
  (hd : o.dst = some d) (hq : mw i L 0 = true) (hu : lK i d L 0 = true) (ht : mM ops i T L.length = true) (h : hJ C.both (fI L i { o with op := .move x }) (fI L i { o with op := .move x }) 0 [] s (sP C f d s K))

def ui (s : AS) (n : Nat) : List (Nat × V) → Prop
 | [] => True
 | (t, x) :: r => (lk s.tm t = x ∧ x.dB n = true) ∧ ui s n r

def qX : List Nat → List Nat → Bool
 | [], _ => true
 | k :: ks, l => aw k l && qX ks l
structure Sub (n : Nat) (s t : AS) : Prop where
 nt : s.nt = t.nt
 tm : ui s t.sg.length t.tm
 sg : dI s.sg t.sg t.sg.length
 kl : qX s.kl t.kl = true
 len : Nat.ble n t.sg.length = true

mutual
def V.wf : V → Prop
 | .int k n => k.min ≤ n ∧ n ≤ k.max
 | .str s => s.length ≤ maxLen
 | .list _ _ l => l.length ≤ maxLen ∧ V.cL l
 | .agg cs | .tuple cs | .box cs _ => V.cL cs
 | .iface _ x => V.wf x
 | _ => True
def V.cL : List V → Prop
 | [] => True
 | c :: cs => V.wf c ∧ V.cL cs
end
def O.wf : O → Prop
 | .cells cs => V.cL cs
 | .buf _ _ l => l.length ≤ maxLen ∧ V.cL l
 | .siter s _ => s.length ≤ maxLen
 | .map _ _ es bs _ => es.length = bs.length
 | _ => True
def iz : List (Nat × V) → List Nat → Prop
 | [], _ => True
 | (t, x) :: r, seen => (match aw t seen with
   | true => True
   | false => x.wf) ∧ iz r (t :: seen)
def eb : List O → Prop
 | [] => True
 | o :: os => o.wf ∧ eb os

def kW (s : AS) (c : Operand) (b : Bool) (K : AS → Prop) : Prop := match c, s with
 | .tmp t, ⟨nt, tm, sg, kl⟩ => K ⟨nt, (t, .bool b) :: tm, sg, kl⟩
 | _, s => K s

def e9 (i j k : Nat) : Nat := cond (Nat.beq k i) j (cond (Nat.beq k j) i k)
def my (f : Nat → Option Nat) : List (Nat × V) → List (Nat × V)
 | [] => []
 | (t, x) :: r => (t, x.aQ f) :: my f r
def swapAt (sg : List O) (i j : Nat) : List O := cW (cW sg i (aq sg j)) j (aq sg i)
def gQ : List V → Nat → V → List V
 | [], _, _ => []
 | _ :: xs, 0, y => y :: xs
 | x :: xs, n + 1, y => x :: gQ xs n y
mutual
def V.put (i : Nat) (y : V) (z : Nat → V) : V → V
 | .buf j => cond (Nat.beq j i) y (.buf j)
 | .agg cs => .agg (V.j4 i y z cs)
 | .tuple cs => .tuple (V.j4 i y z cs)
 | .iface t x => .iface t (V.put i y z x)
 | .func f a b => .func f (V.j4 i y z a) (V.j4 i y z b)
 | .undef => .undef | .int k n => .int k n | .bool b => .bool b | .str s => .str s | .list c z l => .list c z l
 | .nilptr => .nilptr | .box cs o => .box cs o | .nilIface => .nilIface | .nilFunc => .nilFunc | .nilmap => .nilmap
 | .ptr j o => cond (Nat.beq j i) (z o) (.ptr j o)
 | .bptr j a o => .bptr j a o | .map j => .map j
def V.j4 (i : Nat) (y : V) (z : Nat → V) : List V → List V
 | [] => []
 | c :: cs => V.put i y z c :: V.j4 i y z cs
end
def O.put (i : Nat) (y : V) (z : Nat → V) : O → O
 | .cells cs => .cells (V.j4 i y z cs)
 | .dead => .dead | .buf a b l => .buf a b l | .siter s p => .siter s p | .map a sh es bs ck => .map a sh es bs ck
 | .miter m bs ck l x => .miter (V.put i y z m) bs ck l x
def eU (i : Nat) (y : V) (z : Nat → V) : List O → List O
 | [] => []
 | o :: os => o.put i y z :: eU i y z os
def jV (i : Nat) (y : V) (z : Nat → V) : List (Nat × V) → List (Nat × V)
 | [] => []
 | (t, x) :: r => (t, V.put i y z x) :: jV i y z r
def AS.ie (s : AS) : dw → AS
 | .tm t sz => match lk s.tm t, sz with
   | .list true _ [], sz + 1 => ⟨s.nt, (t, .buf s.sg.length) :: s.tm, s.sg ++ [.buf (sz + 1) 0 []], s.kl⟩
   | _, _ => s
 | .cell i off sz => match aq s.sg i, sz with
   | .cells cs, sz + 1 => match gb cs off with
     | some (.list true _ []) => ⟨s.nt, s.tm, cW s.sg i (.cells (gQ cs off (.buf s.sg.length))) ++ [.buf (sz + 1) 0 []], s.kl⟩
     | _ => s
   | _, _ => s
 | .swap i j => match Nat.blt i s.sg.length && Nat.blt j s.sg.length with
   | true => ⟨s.nt, my (fun k => some (e9 i j k)) s.tm, fF (fun k => some (e9 i j k)) (swapAt s.sg i j), i :: j :: s.kl⟩
   | false => s
 | .nw => ⟨s.nt, s.tm, s.sg ++ [.buf 1 0 []], s.kl⟩
 | .bu i => match aq s.sg i with
   | .buf sz _ l => ⟨s.nt, jV i (.list false sz l) (.ptr i) s.tm, cW (eU i (.list false sz l) (.ptr i) s.sg) i .dead, s.kl⟩
   | _ => s
 | .fbx i => match aq s.sg i with
   | .cells cs => cond (V.ew cs) ⟨s.nt, jV i (.buf i) (.box cs) s.tm, cW (eU i (.buf i) (.box cs) s.sg) i .dead, s.kl⟩ s
   | _ => s
def AS.bG (s : AS) : List dw → AS
 | [] => s
 | p :: ps => (s.ie p).bG ps

def s5 (s : AS) (K : AS → Prop) : Prop := match s with
 | ⟨nt, tm, sg, kl⟩ => iT tm fun tm => fB sg fun sg => eO kl fun kl => K ⟨nt, tm, sg, kl⟩
@[simp] theorem HO (s : AS) (K : AS → Prop) : s5 s K = K s := by cases s; simp [s5]
def pX (s : AS) (ps : List dw) (K : AS → Prop) : Prop := match ps with
 | [] => K s
 | p :: ps => s5 (s.bG (p :: ps)) K
theorem sS (s : AS) (ps : List dw) (K : AS → Prop) : pX s ps K = K (s.bG ps) := by cases ps <;> simp [pX, AS.bG]

def n5 (id : Nat) (K : Ex → AS → Prop) (e : Ex) (s : AS) : Prop := match e with
 | .exit j => match Nat.beq j id with
   | true => K .norm s
   | false => K (.exit j) s
 | e => K e s
inductive c5 (n : Nat) (s : AS) (R : AS → (Ex → AS → Prop) → Prop) (K : Ex → AS → Prop) : Prop where
 | mk (X : Type) (inv : X → Prop) (I : X → AS) (μ : X → Nat) (ps : List dw) (x0 : X) (h0 : inv x0) (hs : Sub n (s.bG ps) (I x0))
  (h : ∀ x, inv x → iz (I x).tm [] → eb (I x).sg → R (I x) (jY (fun s' => ∃ (qs : List dw) (x' : X), inv x' ∧ Sub n (s'.bG qs) (I x') ∧ μ x' < μ x) K))

def pD (l : Nat) (f : AS → Prop) (K : Ex → AS → Prop) (e : Ex) (s : AS) : Prop := match e with
 | .goto j => match Nat.beq j l with
   | true => f s
   | false => False
 | e => K e s
def jT (K : Ex → AS → Prop) (e : Ex) (s : AS) : Prop := match e with
 | .goto _ => False
 | e => K e s
inductive km (n l : Nat) (s : AS) (R : AS → (Ex → AS → Prop) → Prop) (K : Ex → AS → Prop) : Prop where
 | mk (X : Type) (inv : X → Prop) (I : X → AS) (μ : X → Nat) (ps : List dw) (x0 : X) (h0 : inv x0) (hs : Sub n (s.bG ps) (I x0))
  (h : ∀ x, inv x → iz (I x).tm [] → eb (I x).sg → R (I x) (pD l (fun s' => ∃ (qs : List dw) (x' : X), inv x' ∧ Sub n (s'.bG qs) (I x') ∧ μ x' < μ x) K))

structure iC (n : Nat) (st0 : St) (g0 : aa) (st : St) (g : aa) (s : AS) : Prop where
 mono : ∀ b o v, st0 b o = some v → st b o = some v
 aO : ∀ i, i < n → aw i s.kl = false → g i = g0 i
 len : n ≤ s.sg.length
structure dT (E0 E : Env) : Prop where
 G : ∀ b, E.G b → E0.G b
 w0 : ∀ b, ¬ E0.G b → E.w0.heap[b]? = E0.w0.heap[b]?
 os : E.w0.os = E0.w0.os
 tape : E.w0.tape = E0.w0.tape
 output : E.w0.output = E0.w0.output
 size : E0.w0.heap.size ≤ E.w0.heap.size
 st0 : E.st0 = E0.st0
 gnew : ∀ b, E0.w0.heap.size ≤ b → E0.G b
 ds : ∃ Ds : List Nat, E.ds = Ds.map (fun D => { target := .collected D, args := #[] }) ++ E0.ds ∧ Ds.Nodup ∧ ∀ D ∈ Ds, E0.G D ∧ ¬ E.G D ∧ E.w0.heap[D]? = some (.deferred (some []))
abbrev YT : Type := List V → List O → List Nat → Option (Prop × V × List O × List Nat)
def rr (C : Ctx) (E : Env) (n : Nat) (st0 : St) (g0 : aa) (l : Nat) (Y : YT) : Prop := ∀ args (s : AS) pre x sg' ks, Y args s.sg s.kl = some (pre, x, sg', ks) → pre → ∀ (st : St) (g : aa) (w : World) (vs : List Value), ay E st g s.sg w → aF C.gl st → al st g args s.sg.length vs → iC n st0 g0 st g s →
 YieldAt Fence.wide 0 C.P l vs.toArray w fun en w' => ∃ v st' g', en = .returned v ∧ ay E st' g' sg' w' ∧ VR st' g' x sg'.length v ∧ fK E st g s.sg.length st' g' sg'.length ks
def SeqOK (C : Ctx) (gf : FuncId) (lb : List V) (σ : List O) (Y : YT) (r : List O) (ks : List Nat) : Prop :=
 iE C.P gf ∧ ∀ (E : Env) (st : St) (g : aa) (w : World) (l : Nat) (vs : List Value), ay E st g σ w → aF C.gl st → E.ds = [] → al st g lb σ.length vs →
  (∀ E', dT E E' → rr C E' σ.length st g l Y) →
  Calls C.P gf (.func (.yield l) #[] #[] :: vs).toArray w fun e w' => ∃ v st' g', e = .returned v ∧ ay E st' g' r w' ∧ (∀ b o v, st b o = some v → st' b o = some v) ∧ σ.length ≤ r.length ∧ ∀ i, i < σ.length → aw i ks = false → g' i = g i
def mN (tm : List (Nat × V)) (kl : List Nat) : List (Nat × V) → Prop
 | [] => True
 | (t, x) :: r => (lk tm t = x ∧ x.kill kl = x) ∧ mN tm kl r
def pP (n : Nat) (ks : List Nat) : List Nat → Bool
 | [] => true
 | k :: kl => (aw k ks || Nat.ble n k) && pP n ks kl
def uJ (n : Nat) (sg' : List O) (ks : List Nat) (s : AS) : Prop := ∃ ps : List dw, dI (s.bG ps).sg sg' sg'.length ∧ pP n ks (s.bG ps).kl = true ∧ n ≤ sg'.length
def dZ : Code → Bool
 | .skip | .label _ | .exit _ | .ret | .goto _ => true
 | .region _ _ d => !d
 | .seq a b | .cond _ a b => dZ a && dZ b
 | .block _ a | .loop a => dZ a
 | _ => false
def lG : List Nat → List V → List (Nat × V) → List (Nat × V)
 | p :: ps, x :: xs, tm => lG ps xs ((p, x) :: tm)
 | _, _, tm => tm
inductive rm (C : Ctx) (s : AS) (g : Operand) (ps : Array Tmp) (A B : Nat → AS → (Ex → AS → Prop) → Prop) (K : Ex → AS → Prop) : Prop where
 | mk (ps0 : List dw) (gf : FuncId) (lb : List V) (Y : YT) (tmI tmE : List (Nat × V)) (r : List O) (ks : List Nat)
     (hyd : C.yd = fun _ _ _ _ => none) (hp : iF ps.toList s.nt = true) (hg : (s.bG ps0).ev C g = .func (.func gf) [] lb) (hseq : SeqOK C gf lb (s.bG ps0).sg Y r ks)
     (hround : ∀ args (s' : AS) pre y sg' ks', Y args s'.sg s'.kl = some (pre, y, sg', ks') → pre → V.cL args → eb s'.sg → ps.toList.length = args.length ∧ y = .bool true ∧ mN (s.bG ps0).tm s'.kl tmI ∧
      A s'.sg.length ⟨s.nt, lG ps.toList args tmI, s'.sg, []⟩ (fun ex s1 => ex = .norm ∧ B s'.sg.length s1 (fun ex s2 => ex = .norm ∧ uJ s'.sg.length sg' ks' s2)))
     (hend : mN (s.bG ps0).tm ks tmE ∧ K .norm ⟨s.nt, tmE, r, d7 ks (s.bG ps0).kl⟩)

def vc (C : Ctx) (n : Nat) : Code → AS → (Ex → AS → Prop) → Prop
 | .skip, s, K => K .norm s
 | .label _, s, K => K .norm s
 | .region id ops false, s, K => pX s (C.hint id) fun s => dr C ops.toList false ops.toList s K
 | .region id ops true, s, K => pX s (C.hint id) fun s => cond (C.pdr id) (uH C ops.toList s K) (hJ C ops.toList ops.toList 0 [] s (K .norm))
 | .seq a b, s, K => vc C n a s (jY (fun s' => vc C n b s' K) K)
 | .cond c x y, s, K => match s.ev C c with
   | .bool b => bd b (kW s c true fun s => vc C n x s K) (kW s c false fun s => vc C n y s K)
   | _ => False
 | .block id c, s, K => vc C n c s (n5 id K)
 | .loop c, s, K => c5 n s (vc C n c) K
 | .scope (.seq a (.seq (.label l) b)), s, K => match findLabel a l with
   | none => vc C n a s (jY (fun s' => km n l s' (vc C n b) K) (jT K))
   | some _ => False
 | .scope c, s, K => vc C n c s (jT K)
 | .exit id, s, K => K (.exit id) s
 | .goto l, s, K => K (.goto l) s
 | .ret, s, K => K .ret s
 | .rangeFunc g ps assign body, s, K => fi (dZ assign && dZ body) (rm C s g ps (fun m => vc C m assign) (fun m => vc C m body) K)
 | _, _, _ => False

def jm : List V → Nat → List (Nat × V)
 | [], _ => []
 | x :: xs, i => (i, x) :: jm xs (i + 1)
def sQ (agg : Bool) (size : Nat) (cs : List V) (off : Nat) : Option V := match agg with
 | true => match eD (fQ cs off) size with
   | some r => some (.agg r)
   | none => none
 | false => gb cs off
def jX (  ti : TypeId → TI) (s : AS) : List ResultVar → Option (List V)
 | [] => some []
 | .tmp t :: r => match jX ti s r with
   | some xs => some (lk s.tm t :: xs)
   | none => none
 | .cell b t :: r => match lk s.tm b with
   | .ptr i off => match aq s.sg i with
     | .cells cs => match (ti t).k with
       | .other => none
       | k => match sQ k.isAgg (ti t).size cs off, jX ti s r with
         | some x, some xs => some (x :: xs)
         | _, _ => none
     | _ => none
   | _ => none
def o8 (ti : TypeId → TI) (s : AS) (rs : List ResultVar) : Option V := match jX ti s rs with
 | some [x] => some x
 | some xs => some (.tuple xs)
 | none => none

def jQ (sg : List O) (aO : Bool) : List Nat → Bool
 | [] => true
 | k :: ks => (match aq sg k with
   | .buf _ _ _ => !aO
   | _ => Nat.ble sg.length k) && jQ sg aO ks

def EndQ (ti : TypeId → TI) (rs : List ResultVar) (sg : List O) (x : V) (r : Option (List O)) (s : AS) : Prop := dE (o8 ti s rs) fun y => match r with
 | none => y = x ∧ x.dB sg.length = true ∧ dI s.sg sg sg.length ∧ jQ sg true s.kl = true
 | some sg' => y = x ∧ x.dB sg'.length = true ∧ dI s.sg sg' sg'.length ∧ jQ sg (dO sg') s.kl = true ∧ Nat.ble sg.length sg'.length = true
inductive a6 (ti : TypeId → TI) (rs : List ResultVar) (sg : List O) (x : V) (r : Option (List O)) (s : AS) : Prop where
 | mk (ps : List dw) (h : EndQ ti rs sg x r (s.bG ps))
def Ends (ti : TypeId → TI) (rs : List ResultVar) (sg : List O) (x : V) (r : Option (List O)) (e : Ex) (s : AS) : Prop := match e with
 | .exit _ => False
 | .goto _ => False
 | .pan _ => False
 | _ => a6 ti rs sg x r s
def PanQ (sg : List O) (r : Option (List O)) (s : AS) : Prop := match r with
 | none => dI s.sg sg sg.length ∧ jQ sg true s.kl = true
 | some sg' => dI s.sg sg' sg'.length ∧ jQ sg (dO sg') s.kl = true ∧ Nat.ble sg.length sg'.length = true
inductive PanP (sg : List O) (r : Option (List O)) (s : AS) : Prop where
 | mk (ps : List dw) (h : PanQ sg r (s.bG ps))
end Go.VG
namespace Go.VG
open Go

def rh (P : Program) (t : TypeId) (sh : List Sc) : Prop := ∀ (st : St) (g : aa) (n : Nat) (cs ds : List V) (r : Bool) (a b : Array Value) (w : World),
 bS sh cs = true → bS sh ds = true → eqs cs ds = some r → cs.length = P.cellsOf t → al st g cs n a.toList → al st g ds n b.toList → (Op.equal t (.agg a) (.agg b)).run P w = .ok r w ∧ P.eqGuardType P.depth t = false

def mX (P : Program) (k : TypeId) : Bool := match P.underlying k with
 | some (.struct _) | some (.array _ _) => true
 | _ => false
def oH (P : Program) (k : TypeId) (sh : List Sc) : Prop := WideMaps.KeyLaw P k ∧ ∀ x, fz (mX P k) sh x = true → mm x → ∃ l, keyOf P k (cf x) = some l
def TK.wi (P : Program) (t : TypeId) (sh : List Sc) : TK → Prop
 | .map k _ => oH P k sh
 | _ => rh P t sh
def TK.ok (P : Program) (t : TypeId) : TK → Prop
 | .bool => P.underlying t = some .bool
 | .int k => P.underlying t = some (.int k)
 | .string => P.underlying t = some .string
 | .slice e => P.underlying t = some (.slice e)
 | .array n e => P.underlying t = some (.array n e)
 | .ptr e => P.underlying t = some (.pointer e)
 | .struct fs => ∃ fields, P.underlying t = some (.struct fields) ∧ fields.toList.map (fun f => (f.offset, f.type)) = fs ∧ (fields.toList.mapM (fun f => (P.info? f.type).map fun i => (f.offset, i.size))).isSome = true
 | .iface => ∃ ms, P.underlying t = some (.interface ms)
 | .func => ∃ a b c, P.underlying t = some (.func a b c)
 | .map k e => P.underlying t = some (.map k e)
 | .other => False

def au (P : Program) (t : TypeId) (i : TI) : Prop := match i.k with
 | .other => True
 | k => k.ok P t ∧ (∃ info, P.info? t = some info ∧ info.size = i.size ∧ info.bytes = i.bytes ∧ ∃ z, info.zero = some z ∧ ∀ (st : St) (g : aa) (n : Nat), VR st g i.zero n z) ∧
  (i.feq ≠ [] → i.k.wi P t i.feq)

theorem au.of {P : Program} {t : TypeId} {i : TI} (h : au P t i) (hk : i.k ≠ .other) : i.k.ok P t ∧ (∃ info, P.info? t = some info ∧ info.size = i.size ∧ info.bytes = i.bytes ∧ ∃ z, info.zero = some z ∧ ∀ (st : St) (g : aa) (n : Nat), VR st g i.zero n z) ∧
     (i.feq ≠ [] → i.k.wi P t i.feq) := by
 unfold au at h
 split at h
 . contradiction
 . exact h

section
variable {P : Program} {t : TypeId} {i : TI} (w : World)

theorem dW (h : au P t i) (hk : i.k ≠ .other) : (sizeOf t).run P w = .ok i.size w := by
 obtain ⟨_, ⟨info, h1, h2, _⟩, _⟩ := h.of hk
 simp [sizeOf, typeInfo, h1, h2]
theorem rH (h : au P t i) (hk : i.k ≠ .other) : P.cellsOf t = i.size := by
 obtain ⟨_, ⟨info, h1, h2, _⟩, _⟩ := h.of hk
 simp [Program.cellsOf, h1, h2]
theorem tc (h : au P t i) (hk : i.k ≠ .other) : ∃ z, (zeroValue t).run P w = .ok z w ∧ ∀ (st : St) (g : aa) (n : Nat), VR st g i.zero n z := by
 obtain ⟨_, ⟨info, h1, h2, _, z, h4, h5⟩, _⟩ := h.of hk
 exact ⟨z, by simp [zeroValue, typeInfo, h1, h4], h5⟩
theorem qa (h : au P t i) (hk : i.k ≠ .other) : (isAgg t).run P w = .ok i.k.isAgg w := by
 obtain ⟨h1, _, _⟩ := h.of hk
 cases hk' : i.k <;> rw [hk'] at h1 <;> simp only [TK.ok] at h1
 case struct fs => obtain ⟨f, h1, _⟩ := h1; simp [isAgg, run_underlying h1, TK.isAgg]
 case iface => obtain ⟨f, h1⟩ := h1; simp [isAgg, run_underlying h1, TK.isAgg]
 case func => obtain ⟨a, b, c, h1⟩ := h1; simp [isAgg, run_underlying h1, TK.isAgg]
 all_goals simp [isAgg, run_underlying h1, TK.isAgg]
end

theorem pC : ∀ (xs : List V) (n : Nat), gb xs n = xs[n]?
 | [], n => by cases n <;> simp [gb]
 | x :: xs, 0 => by simp [gb]
 | x :: xs, n + 1 => by simp [gb, pC xs n]
theorem pb : ∀ (xs : List V) (n : Nat), fQ xs n = xs.drop n
 | xs, 0 => by simp [fQ]
 | [], n + 1 => by simp [fQ]
 | x :: xs, n + 1 => by simp [fQ, pb xs n]
theorem uq : ∀ {xs : List V} {n : Nat} {r : List V}, eD xs n = some r → r = xs.take n ∧ n ≤ xs.length
 | xs, 0, r, h => by simp [eD] at h; simp [h]
 | [], n + 1, r, h => by simp [eD] at h
 | x :: xs, n + 1, r, h => by
   simp only [eD] at h
   split at h
   . rename_i r' hr
     obtain ⟨h1, h2⟩ := uq hr
     cases h
     subst h1
     exact ⟨by simp, by simpa using h2⟩
   . cases h
def over {α : Type} (xs : List α) (o : Nat) (ys : List α) : List α := xs.take o ++ ys ++ xs.drop (o + ys.length)
theorem oc : ∀ {xs : List V} {o : Nat} {ys r : List V}, eY xs o ys = some r → r = over xs o ys ∧ (ys = [] ∨ o + ys.length ≤ xs.length)
 | xs, o, [], r, h => by simp [eY] at h; simp [over, h]
 | [], _, _ :: _, r, h => by simp [eY] at h
 | x :: xs, 0, y :: ys, r, h => by
   simp only [eY] at h
   split at h
   . rename_i r' hr
     obtain ⟨h1, h2⟩ := oc hr
     cases h
     subst h1
     refine ⟨by simp [over], .inr ?_⟩
     rcases h2 with rfl | h2
     . simp
     . simpa using h2
   . cases h
 | x :: xs, n + 1, y :: ys, r, h => by
   simp only [eY] at h
   split at h
   . rename_i r' hr
     obtain ⟨h1, h2⟩ := oc hr
     cases h
     subst h1
     refine ⟨?_, .inr ?_⟩
     . simp only [over, List.take_succ_cons, List.cons_append]
       rw [show n + 1 + (y :: ys).length = (n + (y :: ys).length) + 1 by omega, List.drop_succ_cons]
     . rcases h2 with h2 | h2
       . cases h2
       . simp at h2 ⊢; omega
   . cases h

theorem ic {α : Type} {xs : List α} {o : Nat} {ys : List α} (h : ys = [] ∨ o + ys.length ≤ xs.length) : (over xs o ys).length = xs.length := by
 rcases h with rfl | h
 . simp [over]
 . simp [over]; omega

theorem rq {st : St} {g : aa} {n o : Nat} {cs ds : List V} {vs us : List Value} (h : al st g cs n vs) (k : al st g ds n us) : al st g (over cs o ds) n (over vs o us) := by
 unfold over
 rw [← dx k]
 exact lA (lA (oQ h) k) (oP h)

theorem cR : ∀ {sg : List O} {i : Nat} {o : O}, aq sg i = o → o ≠ .dead → sg[i]? = some o ∧ i < sg.length
 | [], i, o, h, hn => by simp [aq] at h; exact absurd h.symm hn
 | p :: ps, 0, o, h, hn => by simp [aq] at h; simp [h]
 | p :: ps, i + 1, o, h, hn => by
   simp only [aq] at h
   obtain ⟨h1, h2⟩ := cR h hn
   exact ⟨by simpa using h1, by simpa using h2⟩
theorem xE (ks : List Nat) : ∀ sg : List O, pN ks sg = sg.map (O.kill ks)
 | [] => rfl
 | o :: os => by simp [pN, xE ks os]
theorem dY : ∀ (sg : List O) (i : Nat) (o : O), cW sg i o = sg.set i o
 | [], i, o => by simp [cW]
 | p :: ps, 0, o => by simp [cW]
 | p :: ps, i + 1, o => by simp [cW, dY ps i o]
mutual
theorem dP : ∀ (x : V), x.kill [] = x
 | .undef | .int .. | .bool _ | .str _ | .list .. | .nilptr | .box .. | .nilIface | .nilFunc | .nilmap | .ptr .. | .bptr .. | .buf _ | .map _ => by simp [V.kill, aw]
 | .agg cs | .tuple cs => by simp [V.kill, nI cs]
 | .iface t x => by simp [V.kill, dP x]
 | .func f a b => by simp [V.kill, nI a, nI b]
theorem nI : ∀ (x : List V), V.cT [] x = x
 | [] => by simp [V.cT]
 | c :: cs => by simp [V.cT, dP c, nI cs]
end
theorem Fl (o : O) : o.kill [] = o := by cases o <;> simp [O.kill, nI, dP]
theorem nG (ks : List Nat) (sg : List O) : fD ks sg = sg.map (O.kill ks) := by
 cases ks with
 | nil => simp only [fD]; rw [show (O.kill []) = id from funext Fl]; simp
 | cons k ks => simp [fD, xE]
theorem rv (a b : List O) : ec a b = a ++ b := by cases b <;> simp [ec]

theorem xR (ks : List Nat) : ∀ (tm : List (Nat × V)) (t : Nat), lk (nK ks tm) t = (lk tm t).kill ks
 | [], t => by simp [nK, lk, V.kill]
 | (k, x) :: r, t => by
   simp only [nK, lk]
   cases Nat.beq k t <;> simp [xR ks r t]
theorem iZ (ks : List Nat) (tm : List (Nat × V)) (t : Nat) : lk (eQ ks tm) t = (lk tm t).kill ks := by
 cases ks with
 | nil => simp [eQ, dP]
 | cons k ks => simp [eQ, xR]

theorem fM {st : St} {g : aa} {x : V} {n : Nat} {v : Value} (h : VR st g x n v) (hu : x.d9 = false) : al st g x.cells n v.cells.toList := by
 cases x <;> first
  | (simp [V.d9] at hu; done)
  | (simp only [VR] at h
     first
      | (obtain ⟨vs, rfl, h⟩ := h; exact h)
      | (rename_i cs; obtain ⟨vs, rfl, h⟩ := h; simp only [V.cells, Value.cells]; refine bm ?_ cp; simp only [VR]; exact ⟨vs, rfl, h⟩))
  | skip
 all_goals (
  have h' := h
  simp only [VR] at h
  first
   | (subst h; simp only [V.cells, Value.cells]; exact bm h' cp)
   | (obtain ⟨rfl, _⟩ := h; simp only [V.cells, Value.cells]; exact bm h' cp)
   | (obtain ⟨_, _, rfl, _⟩ := h; simp only [V.cells, Value.cells]; exact bm h' cp)
   | (obtain ⟨_, _, _, rfl, _⟩ := h; simp only [V.cells, Value.cells]; exact bm h' cp)
   | (obtain ⟨_, _, _, rfl⟩ := h; simp only [V.cells, Value.cells]; exact bm h' cp)
   | skip)

end Go.VG
