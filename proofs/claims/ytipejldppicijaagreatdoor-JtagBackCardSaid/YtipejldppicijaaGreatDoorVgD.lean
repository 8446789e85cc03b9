/-
  A part of the proof.
-/
import Derived.Test.YtipejldppicijaaGreatDoorVgA
import Derived.WideKeyMaps
import Derived.WideKeyEntry
set_option linter.unusedSimpArgs false
set_option linter.unusedVariables false
namespace Go.VG
open Go

inductive Ex where
 | norm | exit (id : Nat) | ret | goto (l : Nat) | pan (v : Value)
def lr (f : AS → Prop) (K : Ex → AS → Prop) (e : Ex) (s : AS) : Prop := match e with
 | .norm => f s
 | e => K e s

def AS.put (s : AS) (d : Option Nat) (v : V) : AS := ⟨s.nt, match d with
 | some d => (d, v) :: s.tm
 | none => s.tm, s.sg, s.kl⟩

def AS.back (s : AS) (d : Option Nat) (x : V) (sg : List O) (ks : List Nat) : AS :=
 ⟨s.nt, match d with
  | some d => (d, x) :: fN ks s.tm
  | none => fN ks s.tm, sg, dr ks s.kl⟩

def jx (s : AS) (d : Option Nat) (x : V) (sg : List O) (ks : List Nat) (K : AS → Prop) : Prop := match s, d with
 | ⟨nt, tm, _, kl⟩, some d => fI x fun x => jF (fN ks tm) fun tm => gj sg fun sg => fK (dr ks kl) fun kl => K ⟨nt, (d, x) :: tm, sg, kl⟩
 | ⟨nt, tm, _, kl⟩, none => jF (fN ks tm) fun tm => gj sg fun sg => fK (dr ks kl) fun kl => K ⟨nt, tm, sg, kl⟩
@[simp] theorem DZ (s : AS) (d : Option Nat) (x : V) (sg : List O) (ks : List Nat) (K : AS → Prop) : jx s d x sg ks K = K (s.back d x sg ks) := by
 obtain ⟨nt, tm, sg', kl⟩ := s
 cases d <;> simp [jx, AS.back, kU]

def cY (s : AS) : Option Nat → Bool
 | some d => Nat.blt d s.nt
 | none => true

def bC : List Oper → Nat → Option Nat
 | [], _ => none
 | o :: _, 0 => o.dst
 | _ :: os, j + 1 => bC os j

def j4 (P : Program) (f : FuncId) : Prop := ∃ fn, P.funcs[f]? = some fn ∧ (fn.name == "runtime.NumGoroutine") = false ∧ fn.body.isNone = false

def aG (gl : Nat → Option (List V)) (st : St) : Prop := ∀ b cs, gl b = some cs → ∀ g : aj, ∃ vs, av st g cs 0 vs ∧ ∀ j, j < vs.length → st b j = vs[j]?

structure g4 (E : Env) (st : St) (g : aj) (n : Nat) (st' : St) (g' : aj) (n' : Nat) (ks : List Nat) : Prop where
 mono : ∀ b o v, st b o = some v → st' b o = some v
 aT : ∀ i, i < n → aC i ks = false → g' i = g i
 len : n ≤ n'

def y9 (C : Ctx) (f : FuncId) (args : List V) (sg : List O) (K : V → List O → List Nat → Prop) : Prop :=
 j4 C.P f ∧ ∀ (E : Env) (st : St) (g : aj) (w : World) (vs : List Value), aD E st g sg w → aG C.gl st → av st g args sg.length vs →
  Calls C.P f vs.toArray w fun e w' => ∃ v x sg' ks st' g', e = .returned v ∧ aD E st' g' sg' w' ∧ VR st' g' x sg'.length v ∧ g4 E st g sg.length st' g' sg'.length ks ∧ K x sg' ks

def yieldOf (C : Ctx) (s : AS) (c : Call) : Option (Nat × List V) :=
 match c.callee with
 | .value x => match s.ev C x with
   | .func (.yield l) [] [] => some (l, s.bL C c.args.toList)
   | _ => none
 | _ => none
def sn    (C : Ctx) (s : AS) (x : Operand) (d : Option Nat) (K : Ef → AS → Prop) : Prop := match s.ev C x with
 | .ptr k 0 => match ax s.sg k with
   | .miter (.map i) bs ck left _ => match ax s.sg i with
     | .map _ _ _ bs' ck' => (bs' = bs ∧ ck' = ck) ∧ (left = [] → da s d ⟨.tuple [.bool false], [], [], [], [k, i]⟩ fun s' => K ⟨.tuple [.bool false], [], [], [], [k, i]⟩ s') ∧
      (∀ j, j ∈ left → da s d ⟨.tuple [.bool true, .undef, .undef], [], [(k, .miter (.map i) bs ck (left.erase j) j)], [], [k, i]⟩ fun s' => K ⟨.tuple [.bool true, .undef, .undef], [], [(k, .miter (.map i) bs ck (left.erase j) j)], [], [k, i]⟩ s')
     | _ => False
   | _ => False
 | _ => False
def mF (s : AS) (e : Ef) (X : Value → AS → Prop) : Prop := fJ e fun e => dZ (iS e.v) fun u => da s none ⟨.undef, e.ks, e.up, e.nw, e.rd⟩ (X u)
def zj (C : Ctx) (ops : List Oper) (o : Oper) (s : AS) (R : Ex → AS → Prop) : Prop :=
 fZ (cY s o.dst) (match o.guard with
 | none => go s
 | some (j, want) => match bC ops j with
   | none => False
   | some t => match lk s.tm t with
     | .bool b => bo b (cond want (run' (.bool true) t) (skip (.bool true) t)) (cond want (skip (.bool false) t) (run' (.bool false) t))
     | .tuple [] => skip (.tuple []) t
     | _ => False)
where
 go (s : AS) : Prop := match o.op with
   | .call c => match target C s c with
     | some (f, args) => match dD C s.sg f args with
       | some (pre, e) => pre ∧ fJ e fun e => da s o.dst e (R .norm)
       | none => match dD C.fR s.sg f args, dD C.ig s.sg f args with
         | some (p, e1), some (q, e2) => (p ∨ q) ∧ (p → mF s e1 fun u => R (.pan u)) ∧ (q → fJ e2 fun e => da s o.dst e (R .norm))
         | _, _ => y9 C f args s.sg fun x sg ks => jx s o.dst x sg ks (R .norm)
     | none => match yieldOf C s c with
       | some (l, args) => match C.yd l args s.sg s.kl with
         | some (pre, x, sg', ks) => pre ∧ jx s o.dst x sg' ks (R .norm)
         | none => False
       | none => bG C s o fun e => da s o.dst e (R .norm)
   | .next x false => sn C s x o.dst fun _ s' => R .norm s'
   | .panic x => dZ (iS (s.ev C x)) fun u => R (.pan u) s
   | _ => bG C s o fun e => da s o.dst e (R .norm)
 run' (b : V) (t : Nat) : Prop := da s (some t) (pe b) go
 skip (b : V) (t : Nat) : Prop := da s (some t) (pe b) fun s => da s o.dst (pe (.tuple [])) (R .norm)

def sj (C : Ctx) (ops : List Oper) (o : Oper) (rest : List Oper) : Option (Nat × Nat) := match o.op, o.dst, rest with
  | .buildSlice t _ _, some d, o2 :: _ => match o2.op, o2.dst, (C.ti t).k with
    | .convert a b (.tmp d'), some d2, .slice e => match (C.ti e).k with
      | .int .u8 => cond (Nat.beq a t && Nat.beq b t && Nat.beq d d' && !C.lits d) (match o.guard, o2.guard with
        | none, none => some (d, d2)
        | some (j, x), some (j', x') => match bC ops j with
          | some u => cond (Nat.beq j j' && Bool.and (x == x') (!Nat.beq u d)) (some (d, d2)) none
          | none => none
        | _, _ => none) none
      | _ => none
    | _, _, _ => none
  | _, _, _ => none
def fg (s : AS) (p : Option (Nat × Nat)) (K : Bool → AS → Prop) : Prop := match p with
 | none => K false s
 | some (d, d2) => fZ (Nat.blt d2 s.nt) (fI (lk s.tm d) fun x => K true (s.put (some d2) x))

def dJ (C : Ctx) (ops : List Oper) : Bool → List Oper → AS → (Ex → AS → Prop) → Prop
 | _, [], s, K => K .norm s
 | true, _ :: rest, s, K => dJ C ops false rest s K
 | false, o :: rest, s, K => zj C ops o s (lr (fun s' => fg s' (sj C ops o rest) fun b s'' => dJ C ops b rest s'' K) K)

def dU (C : Ctx) (ops : List Oper) (o : Oper) (s : AS) (K : Ef → AS → Prop) (U : AS → V → List O → List Nat → Prop) (X : Value → AS → Prop) : Prop :=
 fZ (cY s o.dst) (match o.guard with
 | none => run
 | some (j, want) => match bC ops j with
   | none => False
   | some t => match lk s.tm t with
     | .bool b => bo b (cond want (run' (.bool true) t) (skip (.bool true) t)) (cond want (skip (.bool false) t) (run' (.bool false) t))
     | .tuple [] => skip (.tuple []) t
     | _ => False)
where
 go (s : AS) : Prop := match o.op with
   | .call c => match target C s c with
     | some (f, args) => match dD C s.sg f args with
       | some (pre, e) => pre ∧ fJ e fun e => da s o.dst e fun s' => K e s'
       | none => match dD C.fR s.sg f args, dD C.ig s.sg f args with
         | some (p, e1), some (q, e2) => (p ∨ q) ∧ (p → mF s e1 X) ∧ (q → fJ e2 fun e => da s o.dst e fun s' => K e s')
         | _, _ => y9 C f args s.sg (U s)
     | none => match yieldOf C s c with
       | some (l, args) => match C.yd l args s.sg s.kl with
         | some (pre, x, sg', ks) => pre ∧ U s x sg' ks
         | none => False
       | none => bG C s o fun e => da s o.dst e fun s' => K e s'
   | .next x false => sn C s x o.dst K
   | .panic x => dZ (iS (s.ev C x)) fun u => X u s
   | _ => bG C s o fun e => da s o.dst e fun s' => K e s'
 run : Prop := go s
 run' (b : V) (t : Nat) : Prop := da s (some t) (pe b) fun s => go s
 skip (b : V) (t : Nat) : Prop := da s (some t) (pe b) fun s => da s o.dst (pe (.tuple [])) fun s' => K (pe (.tuple [])) s'

theorem Fl (C : Ctx) (ops : List Oper) (o : Oper) (s : AS) (f : AS → Prop) (K : Ex → AS → Prop) : zj C ops o s (lr f K) = dU C ops o s (fun _ s' => f s') (fun s x sg ks => jx s o.dst x sg ks f) (fun u s' => K (.pan u) s') := rfl

def jP : Option Operand → List Operand
 | some x => [x]
 | none => []
def qn : List (Nat × Operand) → List Operand
 | [] => []
 | (_, x) :: r => x :: qn r
def fY : Op → List Operand
 | .move x | .assign x | .box _ x | .load _ x | .nilCheck x | .unOp _ _ x | .convert _ _ x | .makeInterface _ x | .fieldAddr _ x _ | .field _ x _ | .range _ x | .next x _ | .typeAssert x _ _ _ | .extract x _ => [x]
 | .pick c a b => [c, a, b]
 | .makeMap _ r => jP r
 | .lookup _ a b _ | .mapEntry _ a b => [a, b]
 | .mapUpdate _ a b c | .entryStore _ a b c => [a, b, c]
 | .entry x => [x]
 | .build _ ps | .buildSlice _ _ ps => qn ps.toList
 | .store _ a v | .binOp _ _ a v _ | .makeSlice _ a v | .indexAddr _ a v | .index _ a v => [a, v]
 | .makeFunc _ a b => a.toList ++ b.toList
 | .slice _ x lo hi mx => x :: (jP lo ++ (jP hi ++ jP mx))
 | .call c => match c.callee with
   | .value f => f :: c.args.toList
   | .invoke r _ => r :: c.args.toList
   | .builtin _ => c.args.toList
 | _ => []
def tmpsOf : List Operand → List Nat
 | [] => []
 | .tmp t :: r => t :: tmpsOf r
 | _ :: r => tmpsOf r
def nP (ops : List Oper) : Option (Nat × Bool) → List Nat
 | none => []
 | some (j, _) => match bC ops j with
   | some t => [t]
   | none => []
def looks (ops : List Oper) (o : Oper) : List Nat := tmpsOf (fY o.op) ++ nP ops o.guard

mutual
def V.free (ks : List Nat) : V → Bool
 | .ptr j _ | .bptr j _ _ | .buf j | .map j => !aC j ks
 | .agg cs | .tuple cs => V.jc ks cs
 | .iface _ x => V.free ks x
 | .func _ fs cs => V.jc ks fs && V.jc ks cs
 | _ => true
def V.jc (ks : List Nat) : List V → Bool
 | [] => true
 | c :: cs => V.free ks c && V.jc ks cs
end
mutual
def V.kc : V → Bool
 | .undef => false
 | .agg cs | .tuple cs => V.jr cs
 | .iface _ x => V.kc x
 | .func _ fs cs => V.jr fs && V.jr cs
 | _ => true
def V.jr : List V → Bool
 | [] => true
 | c :: cs => V.kc c && V.jr cs
end
def kX (ks : List Nat) : List O → Bool
 | [] => true
 | .cells cs :: os => V.jc ks cs && kX ks os
 | .miter m _ _ _ _ :: os => V.free ks m && kX ks os
 | _ :: os => kX ks os
def lJ : List O → Bool
 | [] => true
 | .cells cs :: os => V.jr cs && lJ os
 | .miter m _ _ _ _ :: os => V.kc m && lJ os
 | .dead :: _ => false
 | _ :: os => lJ os
def hO (sg : List O) : List Nat → List O
 | [] => []
 | i :: is => ax sg i :: hO sg is

structure Rc where
 d : Option Nat
 us : List Nat
 anc : List Nat
 e : Ef
 n : Nat
 ov : List V
 oo : List O
 lu : Nat × List Nat

def quiet (e : Ef) : Bool := match e with
 | ⟨_, [], [], [], _⟩ => true
 | _ => false
def pj (d : Option Nat) (us : List Nat) : Bool := match d with
 | some d => !aC d us
 | none => true
def yV : Option Nat → Option Nat → Bool
 | some a, some b => !Nat.beq a b
 | _, _ => true
def oY : List (Nat × O) → List Nat → Bool
 | [], _ => true
 | (i, _) :: r, rd => !aC i rd && oY r rd
def jw : List Nat → Nat → Bool
 | [], _ => true
 | i :: is, n => Nat.blt i n && jw is n
def jk (o : Oper) : Nat × List Nat := match o.guard, o.op with
 | none, .lookup t (.tmp m) (.tmp x) false => (1, [t, m, x])
 | none, .mapEntry t (.tmp m) (.tmp x) => (2, [t, m, x])
 | _, _ => (0, [])
def rL : List Nat → List Nat → Bool
 | [], [] => true
 | a :: r, b :: q => Nat.beq a b && rL r q
 | _, _ => false
def qm (j i : Rc) : Bool := Nat.beq j.lu.1 1 && (Nat.beq i.lu.1 2 && rL j.lu.2 i.lu.2)
def indep (j i : Rc) : Bool :=
 pj j.d i.us && pj i.d j.us && yV i.d j.d && (qm j i ||
 match quiet j.e, quiet i.e with
  | true, true => true
  | true, false => V.jc i.e.ks j.ov && kX i.e.ks j.oo && V.free i.e.ks j.e.v && oY i.e.up j.e.rd && jw j.e.rd i.n
  | false, true => V.jr i.ov && lJ i.oo && V.free j.e.ks i.e.v && oY j.e.up i.e.rd && jw i.e.rd j.n
  | false, false => false)
def mr (i : Rc) : List Rc → Nat → Bool
 | [], _ => true
 | j :: js, k => (aC k i.anc || indep j i) && mr i js (k + 1)

def dc : Ground → Bool
 | .textOnly _ | .gcOnly _ => false
 | _ => true
def km : List Rc → Nat → List Nat
 | [], _ => []
 | r :: _, 0 => r.anc
 | _ :: rs, j + 1 => km rs j
def nc (aP : List Rc) : List Edge → List Nat → List Nat
 | [], acc => acc
 | ⟨on, gr⟩ :: es, acc => cond (dc gr) (mm (dr (on :: km aP on) acc) fun acc => nc aP es acc) (nc aP es acc)
def jz (i : Nat) : List Edge → Bool
 | [] => true
 | ⟨on, gr⟩ :: es => (Nat.blt on i || !dc gr) && jz i es

def stepT (C : Ctx) (ops : List Oper) (s : AS) (o : Oper) : Tr Ef := match o.guard with
 | none => bG C s o
 | some (j, want) => match bC ops j with
   | none => fail
   | some t => match lk s.tm t with
     | .bool b => cond want (iD b (bG C s o) (ret (pe (.tuple [])))) (iD b (ret (pe (.tuple []))) (bG C s o))
     | .tuple [] => ret (pe (.tuple []))
     | _ => fail

def fU (C : Ctx) (ops : List Oper) (aP : List Rc) (s : AS) (o : Oper) (e : Ef) : Rc :=
 ⟨o.dst, looks ops o, nc aP o.after.toList [], e, s.sg.length, s.bL C (fY o.op), hO s.sg e.rd, jk o⟩
def rU (r : Rc) (K : Rc → Prop) : Prop := match r with
 | ⟨d, us, anc, e, n, ov, oo, lu⟩ => fK us fun us => fK anc fun anc => fJ e fun e => bQ ov fun ov => gj oo fun oo => K ⟨d, us, anc, e, n, ov, oo, lu⟩
@[simp] theorem v8 (r : Rc) (K : Rc → Prop) : rU r K = K r := by cases r; simp [rU, hJ]

def nr (C : Ctx) (ops : List Oper) : List Oper → Nat → List Rc → AS → (AS → Prop) → Prop
 | [], _, _, s, K => K s
 | o :: rest, i, aP, s, K => fZ (cY s o.dst && jz i o.after.toList) (stepT C ops s o fun e =>
  fJ e fun e => rU (fU C ops aP s o e) fun r => fZ (mr r aP 0) (fK (aP ++ [r]) fun aP => da s o.dst e fun s' => nr C ops rest (i + 1) aP s' K))

def qc (s : AS) (t : Nat) (b : Bool) (k : AS → Prop) : Prop := match s with
 | ⟨nt, tm, sg, kl⟩ => k ⟨nt, (t, .bool b) :: tm, sg, kl⟩
def tX    (C : Ctx) (ops : List Oper) (s : AS) (o : Oper) (K : Ef → AS → Prop) : Prop := match o.guard with
 | none => bG C s o fun e => K e s
 | some (j, want) => match bC ops j with
   | none => False
   | some t => match lk s.tm t with
     | .bool b => cond want (bo b (qc s t true fun s => bG C s o fun e => K e s) (qc s t false fun s => K (pe (.tuple [])) s))
      (bo b (qc s t true fun s => K (pe (.tuple [])) s) (qc s t false fun s => bG C s o fun e => K e s))
     | .tuple [] => K (pe (.tuple [])) s
     | _ => False
def j9 (C : Ctx) (ops : List Oper) : List Oper → Nat → List Rc → AS → (AS → Prop) → Prop
 | [], _, _, s, K => K s
 | o :: rest, i, aP, s, K => fZ (cY s o.dst && jz i o.after.toList) (tX C ops s o fun e s =>
  fJ e fun e => rU (fU C ops aP s o e) fun r => fZ (mr r aP 0) (fK (aP ++ [r]) fun aP => da s o.dst e fun s' => j9 C ops rest (i + 1) aP s' K))

def gy : List Edge → List Nat
 | [] => []
 | ⟨on, gr⟩ :: es => cond (dc gr) (on :: gy es) (gy es)
def m7 (ops : List Oper) : Nat → List Nat → List Nat
 | 0, cl => cl
 | k + 1, cl => m7 ops k (cond (aC k cl) (match ops[k]? with | some o => gy o.after.toList ++ cl | none => cl) cl)
def oX (l : List Nat) : Nat → Bool
 | 0 => true
 | k + 1 => aC k l && oX l k
def Ctx.both (C : Ctx) : Ctx := { C with Γ := fun f a s => match C.Γ f a s with
 | some r => some r
 | none => C.ig.Γ f a s }
def vB (C : Ctx) (o : Oper) (c : Call) (K : Ex → AS → Prop) (s : AS) : Prop := match target C s c with
 | some (f, args) => match dD C.fR s.sg f args, dD C.ig s.sg f args with
   | some (p, e1), some (q, e2) => fZ (cY s o.dst) ((p ∨ q) ∧ (p → mF s e1 fun u => K (.pan u)) ∧ (q → fJ e2 fun e => da s o.dst e (K .norm)))
   | _, _ => False
 | none => False
def vW (C : Ctx) (f : FuncId) (d : Tmp) (s : AS) (K : Ex → AS → Prop) (s' : AS) : Prop := match dD C.fR s.sg f [lk s'.tm d] with
 | some (p, e1) => p ∧ mF ⟨s.nt, [], s.sg, s.kl⟩ e1 fun u => K (.pan u)
 | none => False
def gC : List Oper → Nat → Oper → List Oper
 | [], _, _ => []
 | _ :: os, 0, o => o :: os
 | p :: os, i + 1, o => p :: gC os i o
def qOp : Op → Bool
 | .move _ | .load _ _ | .fieldAddr _ _ _ | .field _ _ _ | .nilCheck _ => true
 | _ => false
def oh (i : Nat) : List Oper → Nat → Bool
 | [], _ => true
 | o :: os, k => (Nat.beq k i || qOp o.op) && oh i os (k + 1)
def nm (i d : Nat) : List Oper → Nat → Bool
 | [], _ => true
 | o :: os, k => (Nat.beq k i || (match o.dst with | some d' => !Nat.beq d' d | none => true)) && nm i d os (k + 1)
def oF (ops : List Oper) (i : Nat) : List Oper → Nat → Bool
 | [], _ => true
 | o :: os, n => aC i (m7 ops n (gy o.after.toList)) && oF ops i os (n + 1)
inductive ya (C : Ctx) (ops : List Oper) (s : AS) (K : Ex → AS → Prop) : Prop where
 | last (L : List Oper) (o : Oper) (c : Call) (hops : ops = L ++ [o]) (hc : o.op = .call c) (hg : o.guard = none) (he : jz L.length o.after.toList = true) (hb : oX (m7 ops L.length (gy o.after.toList)) L.length = true) (h : j9 C.both L L 0 [] s (vB C o c K))
 | pan (L T : List Oper) (i : Nat) (o : Oper) (x : Operand) (d : Tmp) (f : FuncId) (c : Call) (hops : ops = L ++ T) (hi : L[i]? = some o) (hc : o.op = .call c) (hcv : c.callee = .value (.func f)) (hca : c.args = #[x]) (hg : o.guard = none)
  (hd : o.dst = some d) (hq : oh i L 0 = true) (hu : nm i d L 0 = true) (ht : oF ops i T L.length = true) (h : j9 C.both (gC L i { o with op := .move x }) (gC L i { o with op := .move x }) 0 [] s (vW C f d s K))

def xN (s : AS) (n : Nat) : List (Nat × V) → Prop
 | [] => True
 | (t, x) :: r => (lk s.tm t = x ∧ x.dW n = true) ∧ xN s n r

def tY : List Nat → List Nat → Bool
 | [], _ => true
 | k :: ks, l => aC k l && tY ks l
structure Sub (n : Nat) (s t : AS) : Prop where
 nt : s.nt = t.nt
 tm : xN s t.sg.length t.tm
 sg : et s.sg t.sg t.sg.length
 kl : tY s.kl t.kl = true
 len : Nat.ble n t.sg.length = true

mutual
def V.wf : V → Prop
 | .int k n => k.min ≤ n ∧ n ≤ k.max
 | .str s => s.length ≤ maxLen
 | .list _ _ l => l.length ≤ maxLen ∧ V.cp l
 | .agg cs | .tuple cs | .box cs _ => V.cp cs
 | .iface _ x => V.wf x
 | _ => True
def V.cp : List V → Prop
 | [] => True
 | c :: cs => V.wf c ∧ V.cp cs
end
def O.wf : O → Prop
 | .cells cs => V.cp cs
 | .buf _ _ l => l.length ≤ maxLen ∧ V.cp l
 | .siter s _ => s.length ≤ maxLen
 | .map _ _ es bs _ => es.length = bs.length
 | _ => True
def ju : List (Nat × V) → List Nat → Prop
 | [], _ => True
 | (t, x) :: r, seen => (match aC t seen with
   | true => True
   | false => x.wf) ∧ ju r (t :: seen)
def eY : List O → Prop
 | [] => True
 | o :: os => o.wf ∧ eY os

def mB (s : AS) (c : Operand) (b : Bool) (K : AS → Prop) : Prop := match c, s with
 | .tmp t, ⟨nt, tm, sg, kl⟩ => K ⟨nt, (t, .bool b) :: tm, sg, kl⟩
 | _, s => K s

def eW (i j k : Nat) : Nat := cond (Nat.beq k i) j (cond (Nat.beq k j) i k)
def ot (f : Nat → Option Nat) : List (Nat × V) → List (Nat × V)
 | [] => []
 | (t, x) :: r => (t, x.b8 f) :: ot f r
def swapAt (sg : List O) (i j : Nat) : List O := dm (dm sg i (ax sg j)) j (ax sg i)
def iT : List V → Nat → V → List V
 | [], _, _ => []
 | _ :: xs, 0, y => y :: xs
 | x :: xs, n + 1, y => x :: iT xs n y
mutual
def V.put (i : Nat) (y : V) (z : Nat → V) : V → V
 | .buf j => cond (Nat.beq j i) y (.buf j)
 | .agg cs => .agg (V.jR i y z cs)
 | .tuple cs => .tuple (V.jR i y z cs)
 | .iface t x => .iface t (V.put i y z x)
 | .func f a b => .func f (V.jR i y z a) (V.jR i y z b)
 | .undef => .undef | .int k n => .int k n | .bool b => .bool b | .str s => .str s | .list c z l => .list c z l
 | .nilptr => .nilptr | .box cs o => .box cs o | .nilIface => .nilIface | .nilFunc => .nilFunc | .nilmap => .nilmap
 | .ptr j o => cond (Nat.beq j i) (z o) (.ptr j o)
 | .bptr j a o => .bptr j a o | .map j => .map j
def V.jR (i : Nat) (y : V) (z : Nat → V) : List V → List V
 | [] => []
 | c :: cs => V.put i y z c :: V.jR i y z cs
end
def O.put (i : Nat) (y : V) (z : Nat → V) : O → O
 | .cells cs => .cells (V.jR i y z cs)
 | .dead => .dead | .buf a b l => .buf a b l | .siter s p => .siter s p | .map a sh es bs ck => .map a sh es bs ck
 | .miter m bs ck l x => .miter (V.put i y z m) bs ck l x
def fS (i : Nat) (y : V) (z : Nat → V) : List O → List O
 | [] => []
 | o :: os => o.put i y z :: fS i y z os
def ln (i : Nat) (y : V) (z : Nat → V) : List (Nat × V) → List (Nat × V)
 | [] => []
 | (t, x) :: r => (t, V.put i y z x) :: ln i y z r
def AS.jn (s : AS) : dQ → AS
 | .tm t sz => match lk s.tm t, sz with
   | .list true _ [], sz + 1 => ⟨s.nt, (t, .buf s.sg.length) :: s.tm, s.sg ++ [.buf (sz + 1) 0 []], s.kl⟩
   | _, _ => s
 | .cell i off sz => match ax s.sg i, sz with
   | .cells cs, sz + 1 => match hM cs off with
     | some (.list true _ []) => ⟨s.nt, s.tm, dm s.sg i (.cells (iT cs off (.buf s.sg.length))) ++ [.buf (sz + 1) 0 []], s.kl⟩
     | _ => s
   | _, _ => s
 | .swap i j => match Nat.blt i s.sg.length && Nat.blt j s.sg.length with
   | true => ⟨s.nt, ot (fun k => some (eW i j k)) s.tm, gw (fun k => some (eW i j k)) (swapAt s.sg i j), i :: j :: s.kl⟩
   | false => s
 | .nw => ⟨s.nt, s.tm, s.sg ++ [.buf 1 0 []], s.kl⟩
 | .bH i => match ax s.sg i with
   | .buf sz _ l => ⟨s.nt, ln i (.list false sz l) (.ptr i) s.tm, dm (fS i (.list false sz l) (.ptr i) s.sg) i .dead, s.kl⟩
   | _ => s
 | .fbx i => match ax s.sg i with
   | .cells cs => cond (V.eI cs) ⟨s.nt, ln i (.buf i) (.box cs) s.tm, dm (fS i (.buf i) (.box cs) s.sg) i .dead, s.kl⟩ s
   | _ => s
def AS.bM (s : AS) : List dQ → AS
 | [] => s
 | p :: ps => (s.jn p).bM ps

def v7 (s : AS) (K : AS → Prop) : Prop := match s with
 | ⟨nt, tm, sg, kl⟩ => jF tm fun tm => gj sg fun sg => fK kl fun kl => K ⟨nt, tm, sg, kl⟩
@[simp] theorem Nc (s : AS) (K : AS → Prop) : v7 s K = K s := by cases s; simp [v7]
def sx (s : AS) (ps : List dQ) (K : AS → Prop) : Prop := match ps with
 | [] => K s
 | p :: ps => v7 (s.bM (p :: ps)) K
theorem w4 (s : AS) (ps : List dQ) (K : AS → Prop) : sx s ps K = K (s.bM ps) := by cases ps <;> simp [sx, AS.bM]

def p6 (id : Nat) (K : Ex → AS → Prop) (e : Ex) (s : AS) : Prop := match e with
 | .exit j => match Nat.beq j id with
   | true => K .norm s
   | false => K (.exit j) s
 | e => K e s
inductive bd (n : Nat) (s : AS) (R : AS → (Ex → AS → Prop) → Prop) (K : Ex → AS → Prop) : Prop where
 | mk (X : Type) (inv : X → Prop) (I : X → AS) (μ : X → Nat) (ps : List dQ) (x0 : X) (h0 : inv x0) (hs : Sub n (s.bM ps) (I x0))
  (h : ∀ x, inv x → ju (I x).tm [] → eY (I x).sg → R (I x) (lr (fun s' => ∃ (qs : List dQ) (x' : X), inv x' ∧ Sub n (s'.bM qs) (I x') ∧ μ x' < μ x) K))

def rW (l : Nat) (f : AS → Prop) (K : Ex → AS → Prop) (e : Ex) (s : AS) : Prop := match e with
 | .goto j => match Nat.beq j l with
   | true => f s
   | false => False
 | e => K e s
def lg (K : Ex → AS → Prop) (e : Ex) (s : AS) : Prop := match e with
 | .goto _ => False
 | e => K e s
inductive lU (n l : Nat) (s : AS) (R : AS → (Ex → AS → Prop) → Prop) (K : Ex → AS → Prop) : Prop where
 | mk (X : Type) (inv : X → Prop) (I : X → AS) (μ : X → Nat) (ps : List dQ) (x0 : X) (h0 : inv x0) (hs : Sub n (s.bM ps) (I x0))
  (h : ∀ x, inv x → ju (I x).tm [] → eY (I x).sg → R (I x) (rW l (fun s' => ∃ (qs : List dQ) (x' : X), inv x' ∧ Sub n (s'.bM qs) (I x') ∧ μ x' < μ x) K))

structure jv (n : Nat) (st0 : St) (g0 : aj) (st : St) (g : aj) (s : AS) : Prop where
 mono : ∀ b o v, st0 b o = some v → st b o = some v
 aT : ∀ i, i < n → aC i s.kl = false → g i = g0 i
 len : n ≤ s.sg.length
structure eN (E0 E : Env) : Prop where
 G : ∀ b, E.G b → E0.G b
 w0 : ∀ b, ¬ E0.G b → E.w0.heap[b]? = E0.w0.heap[b]?
 os : E.w0.os = E0.w0.os
 tape : E.w0.tape = E0.w0.tape
 output : E.w0.output = E0.w0.output
 size : E0.w0.heap.size ≤ E.w0.heap.size
 st0 : E.st0 = E0.st0
 gnew : ∀ b, E0.w0.heap.size ≤ b → E0.G b
 ds : ∃ Ds : List Nat, E.ds = Ds.map (fun D => { target := .collected D, args := #[] }) ++ E0.ds ∧ Ds.Nodup ∧ ∀ D ∈ Ds, E0.G D ∧ ¬ E.G D ∧ E.w0.heap[D]? = some (.deferred (some []))
abbrev YT : Type := List V → List O → List Nat → Option (Prop × V × List O × List Nat)
def uq (C : Ctx) (E : Env) (n : Nat) (st0 : St) (g0 : aj) (l : Nat) (Y : YT) : Prop := ∀ args (s : AS) pre x sg' ks, Y args s.sg s.kl = some (pre, x, sg', ks) → pre → ∀ (st : St) (g : aj) (w : World) (vs : List Value), aD E st g s.sg w → aG C.gl st → av st g args s.sg.length vs → jv n st0 g0 st g s →
 YieldAt Fence.wide 0 C.P l vs.toArray w fun en w' => ∃ v st' g', en = .returned v ∧ aD E st' g' sg' w' ∧ VR st' g' x sg'.length v ∧ g4 E st g s.sg.length st' g' sg'.length ks
def SeqOK (C : Ctx) (gf : FuncId) (lb : List V) (σ : List O) (Y : YT) (r : List O) (ks : List Nat) : Prop :=
 j4 C.P gf ∧ ∀ (E : Env) (st : St) (g : aj) (w : World) (l : Nat) (vs : List Value), aD E st g σ w → aG C.gl st → E.ds = [] → av st g lb σ.length vs →
  (∀ E', eN E E' → uq C E' σ.length st g l Y) →
  Calls C.P gf (.func (.yield l) #[] #[] :: vs).toArray w fun e w' => ∃ v st' g', e = .returned v ∧ aD E st' g' r w' ∧ (∀ b o v, st b o = some v → st' b o = some v) ∧ σ.length ≤ r.length ∧ ∀ i, i < σ.length → aC i ks = false → g' i = g i
def oG (tm : List (Nat × V)) (kl : List Nat) : List (Nat × V) → Prop
 | [] => True
 | (t, x) :: r => (lk tm t = x ∧ x.kill kl = x) ∧ oG tm kl r
def s9 (n : Nat) (ks : List Nat) : List Nat → Bool
 | [] => true
 | k :: kl => (aC k ks || Nat.ble n k) && s9 n ks kl
def ye (n : Nat) (sg' : List O) (ks : List Nat) (s : AS) : Prop := ∃ ps : List dQ, et (s.bM ps).sg sg' sg'.length ∧ s9 n ks (s.bM ps).kl = true ∧ n ≤ sg'.length
def eU : Code → Bool
 | .skip | .label _ | .exit _ | .ret | .goto _ => true
 | .region _ _ d => !d
 | .seq a b | .cond _ a b => eU a && eU b
 | .block _ a | .loop a => eU a
 | _ => false
def ng : List Nat → List V → List (Nat × V) → List (Nat × V)
 | p :: ps, x :: xs, tm => ng ps xs ((p, x) :: tm)
 | _, _, tm => tm
inductive ui (C : Ctx) (s : AS) (g : Operand) (ps : Array Tmp) (A B : Nat → AS → (Ex → AS → Prop) → Prop) (K : Ex → AS → Prop) : Prop where
 | mk (ps0 : List dQ) (gf : FuncId) (lb : List V) (Y : YT) (tmI tmE : List (Nat × V)) (r : List O) (ks : List Nat)
     (hyd : C.yd = fun _ _ _ _ => none) (hp : jw ps.toList s.nt = true) (hg : (s.bM ps0).ev C g = .func (.func gf) [] lb) (hseq : SeqOK C gf lb (s.bM ps0).sg Y r ks)
     (hround : ∀ args (s' : AS) pre y sg' ks', Y args s'.sg s'.kl = some (pre, y, sg', ks') → pre → V.cp args → eY s'.sg → ps.toList.length = args.length ∧ y = .bool true ∧ oG (s.bM ps0).tm s'.kl tmI ∧
      A s'.sg.length ⟨s.nt, ng ps.toList args tmI, s'.sg, []⟩ (fun ex s1 => ex = .norm ∧ B s'.sg.length s1 (fun ex s2 => ex = .norm ∧ ye s'.sg.length sg' ks' s2)))
     (hend : oG (s.bM ps0).tm ks tmE ∧ K .norm ⟨s.nt, tmE, r, dr ks (s.bM ps0).kl⟩)

def vc (C : Ctx) (n : Nat) : Code → AS → (Ex → AS → Prop) → Prop
 | .skip, s, K => K .norm s
 | .label _, s, K => K .norm s
 | .region id ops false, s, K => sx s (C.hint id) fun s => dJ C ops.toList false ops.toList s K
 | .region id ops true, s, K => sx s (C.hint id) fun s => cond (C.pdr id) (ya C ops.toList s K) (j9 C ops.toList ops.toList 0 [] s (K .norm))
 | .seq a b, s, K => vc C n a s (lr (fun s' => vc C n b s' K) K)
 | .cond c x y, s, K => match s.ev C c with
   | .bool b => bo b (mB s c true fun s => vc C n x s K) (mB s c false fun s => vc C n y s K)
   | _ => False
 | .block id c, s, K => vc C n c s (p6 id K)
 | .loop c, s, K => bd n s (vc C n c) K
 | .scope (.seq a (.seq (.label l) b)), s, K => match findLabel a l with
   | none => vc C n a s (lr (fun s' => lU n l s' (vc C n b) K) (lg K))
   | some _ => False
 | .scope c, s, K => vc C n c s (lg K)
 | .exit id, s, K => K (.exit id) s
 | .goto l, s, K => K (.goto l) s
 | .ret, s, K => K .ret s
 | .rangeFunc g ps assign body, s, K => fZ (eU assign && eU body) (ui C s g ps (fun m => vc C m assign) (fun m => vc C m body) K)
 | _, _, _ => False

def ky : List V → Nat → List (Nat × V)
 | [], _ => []
 | x :: xs, i => (i, x) :: ky xs (i + 1)
def vX (agg : Bool) (size : Nat) (cs : List V) (off : Nat) : Option V := match agg with
 | true => match fA (gF cs off) size with
   | some r => some (.agg r)
   | none => none
 | false => hM cs off
def lq (  ti : TypeId → TI) (s : AS) : List ResultVar → Option (List V)
 | [] => some []
 | .tmp t :: r => match lq ti s r with
   | some xs => some (lk s.tm t :: xs)
   | none => none
 | .cell b t :: r => match lk s.tm b with
   | .ptr i off => match ax s.sg i with
     | .cells cs => match (ti t).k with
       | .other => none
       | k => match vX k.isAgg (ti t).size cs off, lq ti s r with
         | some x, some xs => some (x :: xs)
         | _, _ => none
     | _ => none
   | _ => none
def qv (ti : TypeId → TI) (s : AS) (rs : List ResultVar) : Option V := match lq ti s rs with
 | some [x] => some x
 | some xs => some (.tuple xs)
 | none => none

def l8 (sg : List O) (aT : Bool) : List Nat → Bool
 | [] => true
 | k :: ks => (match ax sg k with
   | .buf _ _ _ => !aT
   | _ => Nat.ble sg.length k) && l8 sg aT ks

def EndQ (ti : TypeId → TI) (rs : List ResultVar) (sg : List O) (x : V) (r : Option (List O)) (s : AS) : Prop := dZ (qv ti s rs) fun y => match r with
 | none => y = x ∧ x.dW sg.length = true ∧ et s.sg sg sg.length ∧ l8 sg true s.kl = true
 | some sg' => y = x ∧ x.dW sg'.length = true ∧ et s.sg sg' sg'.length ∧ l8 sg (eE sg') s.kl = true ∧ Nat.ble sg.length sg'.length = true
inductive a7 (ti : TypeId → TI) (rs : List ResultVar) (sg : List O) (x : V) (r : Option (List O)) (s : AS) : Prop where
 | mk (ps : List dQ) (h : EndQ ti rs sg x r (s.bM ps))
def Ends (ti : TypeId → TI) (rs : List ResultVar) (sg : List O) (x : V) (r : Option (List O)) (e : Ex) (s : AS) : Prop := match e with
 | .exit _ => False
 | .goto _ => False
 | .pan _ => False
 | _ => a7 ti rs sg x r s
def PanQ (sg : List O) (r : Option (List O)) (s : AS) : Prop := match r with
 | none => et s.sg sg sg.length ∧ l8 sg true s.kl = true
 | some sg' => et s.sg sg' sg'.length ∧ l8 sg (eE sg') s.kl = true ∧ Nat.ble sg.length sg'.length = true
inductive PanP (sg : List O) (r : Option (List O)) (s : AS) : Prop where
 | mk (ps : List dQ) (h : PanQ sg r (s.bM ps))
end Go.VG
namespace Go.VG
open Go

def uf (P : Program) (t : TypeId) (sh : List Sc) : Prop := ∀ (st : St) (g : aj) (n : Nat) (cs ds : List V) (r : Bool) (a b : Array Value) (w : World),
 c6 sh cs = true → c6 sh ds = true → eqs cs ds = some r → cs.length = P.cellsOf t → av st g cs n a.toList → av st g ds n b.toList → (Op.equal t (.agg a) (.agg b)).run P w = .ok r w ∧ P.eqGuardType P.depth t = false

def oW (P : Program) (k : TypeId) : Bool := match P.underlying k with
 | some (.struct _) | some (.array _ _) => true
 | _ => false
def rh (P : Program) (k : TypeId) (sh : List Sc) : Prop := WideMaps.KeyLaw P k ∧ ∀ x, gb (oW P k) sh x = true → o8 x → ∃ l, keyOf P k (ct x) = some l
def TK.zu (P : Program) (t : TypeId) (sh : List Sc) : TK → Prop
 | .map k _ => rh P k sh
 | _ => uf P t sh
def TK.ok (P : Program) (t : TypeId) : TK → Prop
 | .bool => P.underlying t = some .bool
 | .int k => P.underlying t = some (.int k)
 | .string => P.underlying t = some .string
 | .slice e => P.underlying t = some (.slice e)
 | .array n e => P.underlying t = some (.array n e)
 | .ptr e => P.underlying t = some (.pointer e)
 | .struct fs => ∃ fields, P.underlying t = some (.struct fields) ∧ fields.toList.map (fun f => (f.offset, f.type)) = fs ∧ (fields.toList.mapM (fun f => (P.info? f.type).map fun i => (f.offset, i.size))).isSome = true
 | .iface => ∃ ms, P.underlying t = some (.interface ms)
 | .func => ∃ a b c, P.underlying t = some (.func a b c)
 | .map k e => P.underlying t = some (.map k e)
 | .other => False

def ay (P : Program) (t : TypeId) (i : TI) : Prop := match i.k with
 | .other => True
 | k => k.ok P t ∧ (∃ info, P.info? t = some info ∧ info.size = i.size ∧ info.bytes = i.bytes ∧ ∃ z, info.zero = some z ∧ ∀ (st : St) (g : aj) (n : Nat), VR st g i.zero n z) ∧
  (i.feq ≠ [] → i.k.zu P t i.feq)

theorem ay.of {P : Program} {t : TypeId} {i : TI} (h : ay P t i) (hk : i.k ≠ .other) : i.k.ok P t ∧ (∃ info, P.info? t = some info ∧ info.size = i.size ∧ info.bytes = i.bytes ∧ ∃ z, info.zero = some z ∧ ∀ (st : St) (g : aj) (n : Nat), VR st g i.zero n z) ∧
     (i.feq ≠ [] → i.k.zu P t i.feq) := by
 unfold ay at h
 split at h
 . contradiction
 . exact h

section
variable {P : Program} {t : TypeId} {i : TI} (w : World)

theorem eJ (h : ay P t i) (hk : i.k ≠ .other) : (sizeOf t).run P w = .ok i.size w := by
 obtain ⟨_, ⟨info, h1, h2, _⟩, _⟩ := h.of hk
 simp [sizeOf, typeInfo, h1, h2]
theorem uE (h : ay P t i) (hk : i.k ≠ .other) : P.cellsOf t = i.size := by
 obtain ⟨_, ⟨info, h1, h2, _⟩, _⟩ := h.of hk
 simp [Program.cellsOf, h1, h2]
theorem wg (h : ay P t i) (hk : i.k ≠ .other) : ∃ z, (zeroValue t).run P w = .ok z w ∧ ∀ (st : St) (g : aj) (n : Nat), VR st g i.zero n z := by
 obtain ⟨_, ⟨info, h1, h2, _, z, h4, h5⟩, _⟩ := h.of hk
 exact ⟨z, by simp [zeroValue, typeInfo, h1, h4], h5⟩
theorem sE (h : ay P t i) (hk : i.k ≠ .other) : (isAgg t).run P w = .ok i.k.isAgg w := by
 obtain ⟨h1, _, _⟩ := h.of hk
 cases hk' : i.k <;> rw [hk'] at h1 <;> simp only [TK.ok] at h1
 case struct fs => obtain ⟨f, h1, _⟩ := h1; simp [isAgg, run_underlying h1, TK.isAgg]
 case iface => obtain ⟨f, h1⟩ := h1; simp [isAgg, run_underlying h1, TK.isAgg]
 case func => obtain ⟨a, b, c, h1⟩ := h1; simp [isAgg, run_underlying h1, TK.isAgg]
 all_goals simp [isAgg, run_underlying h1, TK.isAgg]
end

theorem rV : ∀ (xs : List V) (n : Nat), hM xs n = xs[n]?
 | [], n => by cases n <;> simp [hM]
 | x :: xs, 0 => by simp [hM]
 | x :: xs, n + 1 => by simp [hM, rV xs n]
theorem rI : ∀ (xs : List V) (n : Nat), gF xs n = xs.drop n
 | xs, 0 => by simp [gF]
 | [], n + 1 => by simp [gF]
 | x :: xs, n + 1 => by simp [gF, rI xs n]
theorem xS : ∀ {xs : List V} {n : Nat} {r : List V}, fA xs n = some r → r = xs.take n ∧ n ≤ xs.length
 | xs, 0, r, h => by simp [fA] at h; simp [h]
 | [], n + 1, r, h => by simp [fA] at h
 | x :: xs, n + 1, r, h => by
   simp only [fA] at h
   split at h
   . rename_i r' hr
     obtain ⟨h1, h2⟩ := xS hr
     cases h
     subst h1
     exact ⟨by simp, by simpa using h2⟩
   . cases h
def over {α : Type} (xs : List α) (o : Nat) (ys : List α) : List α := xs.take o ++ ys ++ xs.drop (o + ys.length)
theorem qy : ∀ {xs : List V} {o : Nat} {ys r : List V}, fW xs o ys = some r → r = over xs o ys ∧ (ys = [] ∨ o + ys.length ≤ xs.length)
 | xs, o, [], r, h => by simp [fW] at h; simp [over, h]
 | [], _, _ :: _, r, h => by simp [fW] at h
 | x :: xs, 0, y :: ys, r, h => by
   simp only [fW] at h
   split at h
   . rename_i r' hr
     obtain ⟨h1, h2⟩ := qy hr
     cases h
     subst h1
     refine ⟨by simp [over], .inr ?_⟩
     rcases h2 with rfl | h2
     . simp
     . simpa using h2
   . cases h
 | x :: xs, n + 1, y :: ys, r, h => by
   simp only [fW] at h
   split at h
   . rename_i r' hr
     obtain ⟨h1, h2⟩ := qy hr
     cases h
     subst h1
     refine ⟨?_, .inr ?_⟩
     . simp only [over, List.take_succ_cons, List.cons_append]
       rw [show n + 1 + (y :: ys).length = (n + (y :: ys).length) + 1 by omega, List.drop_succ_cons]
     . rcases h2 with h2 | h2
       . cases h2
       . simp at h2 ⊢; omega
   . cases h

theorem jm {α : Type} {xs : List α} {o : Nat} {ys : List α} (h : ys = [] ∨ o + ys.length ≤ xs.length) : (over xs o ys).length = xs.length := by
 rcases h with rfl | h
 . simp [over]
 . simp [over]; omega

theorem uo {st : St} {g : aj} {n o : Nat} {cs ds : List V} {vs us : List Value} (h : av st g cs n vs) (k : av st g ds n us) : av st g (over cs o ds) n (over vs o us) := by
 unfold over
 rw [← dA k]
 exact lW (lW (oV h) k) (oS h)

theorem de : ∀ {sg : List O} {i : Nat} {o : O}, ax sg i = o → o ≠ .dead → sg[i]? = some o ∧ i < sg.length
 | [], i, o, h, hn => by simp [ax] at h; exact absurd h.symm hn
 | p :: ps, 0, o, h, hn => by simp [ax] at h; simp [h]
 | p :: ps, i + 1, o, h, hn => by
   simp only [ax] at h
   obtain ⟨h1, h2⟩ := de h hn
   exact ⟨by simpa using h1, by simpa using h2⟩
theorem B1 (ks : List Nat) : ∀ sg : List O, s7 ks sg = sg.map (O.kill ks)
 | [] => rfl
 | o :: os => by simp [s7, B1 ks os]
theorem eT : ∀ (sg : List O) (i : Nat) (o : O), dm sg i o = sg.set i o
 | [], i, o => by simp [dm]
 | p :: ps, 0, o => by simp [dm]
 | p :: ps, i + 1, o => by simp [dm, eT ps i o]
mutual
theorem er : ∀ (x : V), x.kill [] = x
 | .undef | .int .. | .bool _ | .str _ | .list .. | .nilptr | .box .. | .nilIface | .nilFunc | .nilmap | .ptr .. | .bptr .. | .buf _ | .map _ => by simp [V.kill, aC]
 | .agg cs | .tuple cs => by simp [V.kill, pV cs]
 | .iface t x => by simp [V.kill, er x]
 | .func f a b => by simp [V.kill, pV a, pV b]
theorem pV : ∀ (x : List V), V.dj [] x = x
 | [] => by simp [V.dj]
 | c :: cs => by simp [V.dj, er c, pV cs]
end
theorem K4 (o : O) : o.kill [] = o := by cases o <;> simp [O.kill, pV, er]
theorem pT (ks : List Nat) (sg : List O) : gp ks sg = sg.map (O.kill ks) := by
 cases ks with
 | nil => simp only [gp]; rw [show (O.kill []) = id from funext K4]; simp
 | cons k ks => simp [gp, B1]
theorem uu (a b : List O) : eZ a b = a ++ b := by cases b <;> simp [eZ]

theorem Bm (ks : List Nat) : ∀ (tm : List (Nat × V)) (t : Nat), lk (pX ks tm) t = (lk tm t).kill ks
 | [], t => by simp [pX, lk, V.kill]
 | (k, x) :: r, t => by
   simp only [pX, lk]
   cases Nat.beq k t <;> simp [Bm ks r t]
theorem jN (ks : List Nat) (tm : List (Nat × V)) (t : Nat) : lk (fN ks tm) t = (lk tm t).kill ks := by
 cases ks with
 | nil => simp [fN, er]
 | cons k ks => simp [fN, Bm]

theorem g5 {st : St} {g : aj} {x : V} {n : Nat} {v : Value} (h : VR st g x n v) (hu : x.dh = false) : av st g x.cells n v.cells.toList := by
 cases x <;> first
  | (simp [V.dh] at hu; done)
  | (simp only [VR] at h
     first
      | (obtain ⟨vs, rfl, h⟩ := h; exact h)
      | (rename_i cs; obtain ⟨vs, rfl, h⟩ := h; simp only [V.cells, Value.cells]; refine bm ?_ cC; simp only [VR]; exact ⟨vs, rfl, h⟩))
  | skip
 all_goals (
  have h' := h
  simp only [VR] at h
  first
   | (subst h; simp only [V.cells, Value.cells]; exact bm h' cC)
   | (obtain ⟨rfl, _⟩ := h; simp only [V.cells, Value.cells]; exact bm h' cC)
   | (obtain ⟨_, _, rfl, _⟩ := h; simp only [V.cells, Value.cells]; exact bm h' cC)
   | (obtain ⟨_, _, _, rfl, _⟩ := h; simp only [V.cells, Value.cells]; exact bm h' cC)
   | (obtain ⟨_, _, _, rfl⟩ := h; simp only [V.cells, Value.cells]; exact bm h' cC)
   | skip)

end Go.VG
