/-
  A part of the proof.
-/
import Derived.Test.YtdjolnjlhbfnmaaGreatDoorVgA
import Derived.WideKeyMaps
import Derived.WideKeyEntry
set_option linter.unusedSimpArgs false
set_option linter.unusedVariables false
namespace Go.VG
open Go

inductive Ex where
 | norm | exit (id : Nat) | ret | goto (l : Nat) | pan (v : Value)
def ng (f : AS → Prop) (K : Ex → AS → Prop) (e : Ex) (s : AS) : Prop := match e with
 | .norm => f s
 | e => K e s

def AS.put (s : AS) (d : Option Nat) (v : V) : AS := ⟨s.nt, match d with
 | some d => (d, v) :: s.tm
 | none => s.tm, s.sg, s.kl⟩

def AS.back (s : AS) (d : Option Nat) (x : V) (sg : List O) (ks : List Nat) : AS :=
 ⟨s.nt, match d with
  | some d => (d, x) :: gW ks s.tm
  | none => gW ks s.tm, sg, ep ks s.kl⟩

def ld (s : AS) (d : Option Nat) (x : V) (sg : List O) (ks : List Nat) (K : AS → Prop) : Prop := match s, d with
 | ⟨nt, tm, _, kl⟩, some d => j8 x fun x => lA (gW ks tm) fun tm => ir sg fun sg => gS (ep ks kl) fun kl => K ⟨nt, (d, x) :: tm, sg, kl⟩
 | ⟨nt, tm, _, kl⟩, none => lA (gW ks tm) fun tm => ir sg fun sg => gS (ep ks kl) fun kl => K ⟨nt, tm, sg, kl⟩
@[simp] theorem Fw (s : AS) (d : Option Nat) (x : V) (sg : List O) (ks : List Nat) (K : AS → Prop) : ld s d x sg ks K = K (s.back d x sg ks) := by
 obtain ⟨nt, tm, sg', kl⟩ := s
 cases d <;> simp [ld, AS.back, mG]

def dD (s : AS) : Option Nat → Bool
 | some d => Nat.blt d s.nt
 | none => true

def cq : List Oper → Nat → Option Nat
 | [], _ => none
 | o :: _, 0 => o.dst
 | _ :: os, j + 1 => cq os j

def kj (P : Program) (f : FuncId) : Prop := ∃ fn, P.funcs[f]? = some fn ∧ (fn.name == "runtime.NumGoroutine") = false ∧ fn.body.isNone = false

def aW (gl : Nat → Option (List V)) (st : St) : Prop := ∀ b cs, gl b = some cs → ∀ g : ay, ∃ vs, aJ st g cs 0 vs ∧ ∀ j, j < vs.length → st b j = vs[j]?

structure gH (E : Env) (st : St) (g : ay) (n : Nat) (st' : St) (g' : ay) (n' : Nat) (ks : List Nat) : Prop where
 mono : ∀ b o v, st b o = some v → st' b o = some v
 bm : ∀ i, i < n → aP i ks = false → g' i = g i
 len : n ≤ n'

def A6 (C : Ctx) (f : FuncId) (args : List V) (sg : List O) (K : V → List O → List Nat → Prop) : Prop :=
 kj C.P f ∧ ∀ (E : Env) (st : St) (g : ay) (w : World) (vs : List Value), aR E st g sg w → aW C.gl st → aJ st g args sg.length vs →
  Calls C.P f vs.toArray w fun e w' => ∃ v x sg' ks st' g', e = .returned v ∧ aR E st' g' sg' w' ∧ VR st' g' x sg'.length v ∧ gH E st g sg.length st' g' sg'.length ks ∧ K x sg' ks

def yieldOf (C : Ctx) (s : AS) (c : Call) : Option (Nat × List V) :=
 match c.callee with
 | .value x => match s.ev C x with
   | .func (.yield l) [] [] => some (l, s.aX C c.args.toList)
   | _ => none
 | _ => none
def uc    (C : Ctx) (s : AS) (x : Operand) (d : Option Nat) (K : Ef → AS → Prop) : Prop := match s.ev C x with
 | .ptr k 0 => match aL s.sg k with
   | .miter (.map i) bs ck left _ => match aL s.sg i with
     | .map _ _ _ bs' ck' => (bs' = bs ∧ ck' = ck) ∧ (left = [] → dS s d ⟨.tuple [.bool false], [], [], [], [k, i]⟩ fun s' => K ⟨.tuple [.bool false], [], [], [], [k, i]⟩ s') ∧
      (∀ j, j ∈ left → dS s d ⟨.tuple [.bool true, .undef, .undef], [], [(k, .miter (.map i) bs ck (left.erase j) j)], [], [k, i]⟩ fun s' => K ⟨.tuple [.bool true, .undef, .undef], [], [(k, .miter (.map i) bs ck (left.erase j) j)], [], [k, i]⟩ s')
     | _ => False
   | _ => False
 | _ => False
def oF (s : AS) (e : Ef) (X : Value → AS → Prop) : Prop := gR e fun e => fk (jT e.v) fun u => dS s none ⟨.undef, e.ks, e.up, e.nw, e.rd⟩ (X u)
def Bv (C : Ctx) (ops : List Oper) (o : Oper) (s : AS) (R : Ex → AS → Prop) : Prop :=
 ic (dD s o.dst) (match o.guard with
 | none => go s
 | some (j, want) => match cq ops j with
   | none => False
   | some t => match lk s.tm t with
     | .bool b => c8 b (cond want (run' (.bool true) t) (skip (.bool true) t)) (cond want (skip (.bool false) t) (run' (.bool false) t))
     | .tuple [] => skip (.tuple []) t
     | _ => False)
where
 go (s : AS) : Prop := match o.op with
   | .call c => match target C s c with
     | some (f, args) => match cV C s.sg f args with
       | some (pre, e) => pre ∧ gR e fun e => dS s o.dst e (R .norm)
       | none => match cV C.hJ s.sg f args, cV C.jl s.sg f args with
         | some (p, e1), some (q, e2) => (p ∨ q) ∧ (p → oF s e1 fun u => R (.pan u)) ∧ (q → gR e2 fun e => dS s o.dst e (R .norm))
         | _, _ => A6 C f args s.sg fun x sg ks => ld s o.dst x sg ks (R .norm)
     | none => match yieldOf C s c with
       | some (l, args) => match C.yd l args s.sg s.kl with
         | some (pre, x, sg', ks) => pre ∧ ld s o.dst x sg' ks (R .norm)
         | none => False
       | none => cr C s o fun e => dS s o.dst e (R .norm)
   | .next x false => uc C s x o.dst fun _ s' => R .norm s'
   | .panic x => fk (jT (s.ev C x)) fun u => R (.pan u) s
   | _ => cr C s o fun e => dS s o.dst e (R .norm)
 run' (b : V) (t : Nat) : Prop := dS s (some t) (pe b) go
 skip (b : V) (t : Nat) : Prop := dS s (some t) (pe b) fun s => dS s o.dst (pe (.tuple [])) (R .norm)

def u5 (C : Ctx) (ops : List Oper) (o : Oper) (rest : List Oper) : Option (Nat × Nat) := match o.op, o.dst, rest with
  | .buildSlice t _ _, some d, o2 :: _ => match o2.op, o2.dst, (C.ti t).k with
    | .convert a b (.tmp d'), some d2, .slice e => match (C.ti e).k with
      | .int .u8 => cond (Nat.beq a t && Nat.beq b t && Nat.beq d d' && !C.lits d) (match o.guard, o2.guard with
        | none, none => some (d, d2)
        | some (j, x), some (j', x') => match cq ops j with
          | some u => cond (Nat.beq j j' && Bool.and (x == x') (!Nat.beq u d)) (some (d, d2)) none
          | none => none
        | _, _ => none) none
      | _ => none
    | _, _, _ => none
  | _, _, _ => none
def gv (s : AS) (p : Option (Nat × Nat)) (K : Bool → AS → Prop) : Prop := match p with
 | none => K false s
 | some (d, d2) => ic (Nat.blt d2 s.nt) (j8 (lk s.tm d) fun x => K true (s.put (some d2) x))

def eO (C : Ctx) (ops : List Oper) : Bool → List Oper → AS → (Ex → AS → Prop) → Prop
 | _, [], s, K => K .norm s
 | true, _ :: rest, s, K => eO C ops false rest s K
 | false, o :: rest, s, K => Bv C ops o s (ng (fun s' => gv s' (u5 C ops o rest) fun b s'' => eO C ops b rest s'' K) K)

def fc (C : Ctx) (ops : List Oper) (o : Oper) (s : AS) (K : Ef → AS → Prop) (U : AS → V → List O → List Nat → Prop) (X : Value → AS → Prop) : Prop :=
 ic (dD s o.dst) (match o.guard with
 | none => run
 | some (j, want) => match cq ops j with
   | none => False
   | some t => match lk s.tm t with
     | .bool b => c8 b (cond want (run' (.bool true) t) (skip (.bool true) t)) (cond want (skip (.bool false) t) (run' (.bool false) t))
     | .tuple [] => skip (.tuple []) t
     | _ => False)
where
 go (s : AS) : Prop := match o.op with
   | .call c => match target C s c with
     | some (f, args) => match cV C s.sg f args with
       | some (pre, e) => pre ∧ gR e fun e => dS s o.dst e fun s' => K e s'
       | none => match cV C.hJ s.sg f args, cV C.jl s.sg f args with
         | some (p, e1), some (q, e2) => (p ∨ q) ∧ (p → oF s e1 X) ∧ (q → gR e2 fun e => dS s o.dst e fun s' => K e s')
         | _, _ => A6 C f args s.sg (U s)
     | none => match yieldOf C s c with
       | some (l, args) => match C.yd l args s.sg s.kl with
         | some (pre, x, sg', ks) => pre ∧ U s x sg' ks
         | none => False
       | none => cr C s o fun e => dS s o.dst e fun s' => K e s'
   | .next x false => uc C s x o.dst K
   | .panic x => fk (jT (s.ev C x)) fun u => X u s
   | _ => cr C s o fun e => dS s o.dst e fun s' => K e s'
 run : Prop := go s
 run' (b : V) (t : Nat) : Prop := dS s (some t) (pe b) fun s => go s
 skip (b : V) (t : Nat) : Prop := dS s (some t) (pe b) fun s => dS s o.dst (pe (.tuple [])) fun s' => K (pe (.tuple [])) s'

theorem GR (C : Ctx) (ops : List Oper) (o : Oper) (s : AS) (f : AS → Prop) (K : Ex → AS → Prop) : Bv C ops o s (ng f K) = fc C ops o s (fun _ s' => f s') (fun s x sg ks => ld s o.dst x sg ks f) (fun u s' => K (.pan u) s') := rfl

def lT : Option Operand → List Operand
 | some x => [x]
 | none => []
def s6 : List (Nat × Operand) → List Operand
 | [] => []
 | (_, x) :: r => x :: s6 r
def gG : Op → List Operand
 | .move x | .assign x | .box _ x | .load _ x | .nilCheck x | .unOp _ _ x | .convert _ _ x | .makeInterface _ x | .fieldAddr _ x _ | .field _ x _ | .range _ x | .next x _ | .typeAssert x _ _ _ | .extract x _ | .sliceToArrayPointer _ x => [x]
 | .pick c a b => [c, a, b]
 | .makeMap _ r => lT r
 | .lookup _ a b _ | .mapEntry _ a b => [a, b]
 | .mapUpdate _ a b c | .entryStore _ a b c => [a, b, c]
 | .entry x => [x]
 | .build _ ps | .buildSlice _ _ ps => s6 ps.toList
 | .store _ a v | .binOp _ _ a v _ | .makeSlice _ a v | .indexAddr _ a v | .index _ a v => [a, v]
 | .makeFunc _ a b => a.toList ++ b.toList
 | .slice _ x lo hi mx => x :: (lT lo ++ (lT hi ++ lT mx))
 | .call c => match c.callee with
   | .value f => f :: c.args.toList
   | .invoke r _ => r :: c.args.toList
   | .builtin _ => c.args.toList
 | _ => []
def tmpsOf : List Operand → List Nat
 | [] => []
 | .tmp t :: r => t :: tmpsOf r
 | _ :: r => tmpsOf r
def pJ (ops : List Oper) : Option (Nat × Bool) → List Nat
 | none => []
 | some (j, _) => match cq ops j with
   | some t => [t]
   | none => []
def looks (ops : List Oper) (o : Oper) : List Nat := tmpsOf (gG o.op) ++ pJ ops o.guard

mutual
def V.free (ks : List Nat) : V → Bool
 | .ptr j _ | .bptr j _ _ | .buf j | .map j => !aP j ks
 | .agg cs | .tuple cs => V.kE ks cs
 | .iface _ x => V.free ks x
 | .func _ fs cs => V.kE ks fs && V.kE ks cs
 | _ => true
def V.kE (ks : List Nat) : List V → Bool
 | [] => true
 | c :: cs => V.free ks c && V.kE ks cs
end
mutual
def V.lX : V → Bool
 | .undef => false
 | .agg cs | .tuple cs => V.kZ cs
 | .iface _ x => V.lX x
 | .func _ fs cs => V.kZ fs && V.kZ cs
 | _ => true
def V.kZ : List V → Bool
 | [] => true
 | c :: cs => V.lX c && V.kZ cs
end
def mJ (ks : List Nat) : List O → Bool
 | [] => true
 | .cells cs :: os => V.kE ks cs && mJ ks os
 | .miter m _ _ _ _ :: os => V.free ks m && mJ ks os
 | _ :: os => mJ ks os
def ns : List O → Bool
 | [] => true
 | .cells cs :: os => V.kZ cs && ns os
 | .miter m _ _ _ _ :: os => V.lX m && ns os
 | .dead :: _ => false
 | _ :: os => ns os
def jb (sg : List O) : List Nat → List O
 | [] => []
 | i :: is => aL sg i :: jb sg is

structure Rc where
 d : Option Nat
 us : List Nat
 anc : List Nat
 e : Ef
 n : Nat
 ov : List V
 oo : List O
 lu : Nat × List Nat

def quiet (e : Ef) : Bool := match e with
 | ⟨_, [], [], [], _⟩ => true
 | _ => false
def r0 (d : Option Nat) (us : List Nat) : Bool := match d with
 | some d => !aP d us
 | none => true
def B6 : Option Nat → Option Nat → Bool
 | some a, some b => !Nat.beq a b
 | _, _ => true
def qU : List (Nat × O) → List Nat → Bool
 | [], _ => true
 | (i, _) :: r, rd => !aP i rd && qU r rd
def la : List Nat → Nat → Bool
 | [], _ => true
 | i :: is, n => Nat.blt i n && la is n
def iT (o : Oper) : Nat × List Nat := match o.guard, o.op with
 | none, .lookup t (.tmp m) (.tmp x) false => (1, [t, m, x])
 | none, .mapEntry t (.tmp m) (.tmp x) => (2, [t, m, x])
 | none, .alloc _ => (3, [])
 | _, _ => (0, [])
def tD : List Nat → List Nat → Bool
 | [], [] => true
 | a :: r, b :: q => Nat.beq a b && tD r q
 | _, _ => false
def s5 (j i : Rc) : Bool := Nat.beq j.lu.1 1 && (Nat.beq i.lu.1 2 && tD j.lu.2 i.lu.2)
def zO (j i : Rc) : Bool := match j.e, i.e with
 | ⟨_, [a], _, [], _⟩, ⟨_, [b], _, [], _⟩ => Nat.beq j.lu.1 3 && Nat.beq i.lu.1 3 && !Nat.beq a b
 | _, _ => false
def indep (j i : Rc) : Bool :=
 r0 j.d i.us && r0 i.d j.us && B6 i.d j.d && (s5 j i ||
 match quiet j.e, quiet i.e with
  | true, true => true
  | true, false => V.kE i.e.ks j.ov && mJ i.e.ks j.oo && V.free i.e.ks j.e.v && qU i.e.up j.e.rd && la j.e.rd i.n
  | false, true => V.kZ i.ov && ns i.oo && V.free j.e.ks i.e.v && qU j.e.up i.e.rd && la i.e.rd j.n
  | false, false => zO j i)
def og (i : Rc) : List Rc → Nat → Bool
 | [], _ => true
 | j :: js, k => (aP k i.anc || indep j i) && og i js (k + 1)

def dW : Ground → Bool
 | .textOnly _ | .gcOnly _ => false
 | _ => true
def lZ : List Rc → Nat → List Nat
 | [], _ => []
 | r :: _, 0 => r.anc
 | _ :: rs, j + 1 => lZ rs j
def oX (bh : List Rc) : List Edge → List Nat → List Nat
 | [], acc => acc
 | ⟨on, gr⟩ :: es, acc => cond (dW gr) (od (ep (on :: lZ bh on) acc) fun acc => oX bh es acc) (oX bh es acc)
def ll (i : Nat) : List Edge → Bool
 | [] => true
 | ⟨on, gr⟩ :: es => (Nat.blt on i || !dW gr) && ll i es

def stepT (C : Ctx) (ops : List Oper) (s : AS) (o : Oper) : Tr Ef := match o.guard with
 | none => cr C s o
 | some (j, want) => match cq ops j with
   | none => fail
   | some t => match lk s.tm t with
     | .bool b => cond want (jD b (cr C s o) (ret (pe (.tuple [])))) (jD b (ret (pe (.tuple []))) (cr C s o))
     | .tuple [] => ret (pe (.tuple []))
     | _ => fail

def hZ (C : Ctx) (ops : List Oper) (bh : List Rc) (s : AS) (o : Oper) (e : Ef) : Rc :=
 ⟨o.dst, looks ops o, oX bh o.after.toList [], e, s.sg.length, s.aX C (gG o.op), jb s.sg e.rd, iT o⟩
def tK (r : Rc) (K : Rc → Prop) : Prop := match r with
 | ⟨d, us, anc, e, n, ov, oo, lu⟩ => gS us fun us => gS anc fun anc => gR e fun e => cK ov fun ov => ir oo fun oo => K ⟨d, us, anc, e, n, ov, oo, lu⟩
@[simp] theorem wk (r : Rc) (K : Rc → Prop) : tK r K = K r := by cases r; simp [tK, j9]

def pk (C : Ctx) (ops : List Oper) : List Oper → Nat → List Rc → AS → (AS → Prop) → Prop
 | [], _, _, s, K => K s
 | o :: rest, i, bh, s, K => ic (dD s o.dst && ll i o.after.toList) (stepT C ops s o fun e =>
  gR e fun e => tK (hZ C ops bh s o e) fun r => ic (og r bh 0) (gS (bh ++ [r]) fun bh => dS s o.dst e fun s' => pk C ops rest (i + 1) bh s' K))

def rP (s : AS) (t : Nat) (b : Bool) (k : AS → Prop) : Prop := match s with
 | ⟨nt, tm, sg, kl⟩ => k ⟨nt, (t, .bool b) :: tm, sg, kl⟩
def vj    (C : Ctx) (ops : List Oper) (s : AS) (o : Oper) (K : Ef → AS → Prop) : Prop := match o.guard with
 | none => cr C s o fun e => K e s
 | some (j, want) => match cq ops j with
   | none => False
   | some t => match lk s.tm t with
     | .bool b => cond want (c8 b (rP s t true fun s => cr C s o fun e => K e s) (rP s t false fun s => K (pe (.tuple [])) s))
      (c8 b (rP s t true fun s => K (pe (.tuple [])) s) (rP s t false fun s => cr C s o fun e => K e s))
     | .tuple [] => K (pe (.tuple [])) s
     | _ => False
def kz (C : Ctx) (ops : List Oper) : List Oper → Nat → List Rc → AS → (AS → Prop) → Prop
 | [], _, _, s, K => K s
 | o :: rest, i, bh, s, K => ic (dD s o.dst && ll i o.after.toList) (vj C ops s o fun e s =>
  gR e fun e => tK (hZ C ops bh s o e) fun r => ic (og r bh 0) (gS (bh ++ [r]) fun bh => dS s o.dst e fun s' => kz C ops rest (i + 1) bh s' K))

def iv : List Edge → List Nat
 | [] => []
 | ⟨on, gr⟩ :: es => cond (dW gr) (on :: iv es) (iv es)
def nP (ops : List Oper) : Nat → List Nat → List Nat
 | 0, cl => cl
 | k + 1, cl => nP ops k (cond (aP k cl) (match ops[k]? with | some o => iv o.after.toList ++ cl | none => cl) cl)
def qT (l : List Nat) : Nat → Bool
 | 0 => true
 | k + 1 => aP k l && qT l k
def Ctx.both (C : Ctx) : Ctx := { C with Γ := fun f a s => match C.Γ f a s with
 | some r => some r
 | none => C.jl.Γ f a s }
def x9 (C : Ctx) (o : Oper) (c : Call) (K : Ex → AS → Prop) (s : AS) : Prop := match target C s c with
 | some (f, args) => match cV C.hJ s.sg f args, cV C.jl s.sg f args with
   | some (p, e1), some (q, e2) => ic (dD s o.dst) ((p ∨ q) ∧ (p → oF s e1 fun u => K (.pan u)) ∧ (q → gR e2 fun e => dS s o.dst e (K .norm)))
   | _, _ => False
 | none => False
def xw (C : Ctx) (f : FuncId) (d : Tmp) (s : AS) (K : Ex → AS → Prop) (s' : AS) : Prop := match cV C.hJ s.sg f [lk s'.tm d] with
 | some (p, e1) => p ∧ oF ⟨s.nt, [], s.sg, s.kl⟩ e1 fun u => K (.pan u)
 | none => False
def iy : List Oper → Nat → Oper → List Oper
 | [], _, _ => []
 | _ :: os, 0, o => o :: os
 | p :: os, i + 1, o => p :: iy os i o
def qOp : Op → Bool
 | .move _ | .load _ _ | .fieldAddr _ _ _ | .field _ _ _ | .nilCheck _ => true
 | _ => false
def qn (i : Nat) : List Oper → Nat → Bool
 | [], _ => true
 | o :: os, k => (Nat.beq k i || qOp o.op) && qn i os (k + 1)
def p9 (i d : Nat) : List Oper → Nat → Bool
 | [], _ => true
 | o :: os, k => (Nat.beq k i || (match o.dst with | some d' => !Nat.beq d' d | none => true)) && p9 i d os (k + 1)
def qE (ops : List Oper) (i : Nat) : List Oper → Nat → Bool
 | [], _ => true
 | o :: os, n => aP i (nP ops n (iv o.after.toList)) && qE ops i os (n + 1)
inductive A7 (C : Ctx) (ops : List Oper) (s : AS) (K : Ex → AS → Prop) : Prop where
 | last (L : List Oper) (o : Oper) (c : Call) (hops : ops = L ++ [o]) (hc : o.op = .call c) (hg : o.guard = none) (he : ll L.length o.after.toList = true) (hb : qT (nP ops L.length (iv o.after.toList)) L.length = true) (h : kz C.both L L 0 [] s (x9 C o c K))
 | pan (L T : List Oper) (i : Nat) (o : Oper) (x : Operand) (d : Tmp) (f : FuncId) (c : Call) (hops : ops = L ++ T) (hi : L[i]? = some o) (hc : o.op = .call c) (hcv : c.callee = .value (.func f)) (hca : c.args = #[x]) (hg : o.guard = none)
  (hd : o.dst = some d) (hq : qn i L 0 = true) (hu : p9 i d L 0 = true) (ht : qE ops i T L.length = true) (h : kz C.both (iy L i { o with op := .move x }) (iy L i { o with op := .move x }) 0 [] s (xw C f d s K))

def zH (s : AS) (n : Nat) : List (Nat × V) → Prop
 | [] => True
 | (t, x) :: r => (lk s.tm t = x ∧ x.ff n = true) ∧ zH s n r

def vk : List Nat → List Nat → Bool
 | [], _ => true
 | k :: ks, l => aP k l && vk ks l
structure Sub (n : Nat) (s t : AS) : Prop where
 nt : s.nt = t.nt
 tm : zH s t.sg.length t.tm
 sg : fC s.sg t.sg t.sg.length
 kl : vk s.kl t.kl = true
 len : Nat.ble n t.sg.length = true

mutual
def V.wf : V → Prop
 | .int k n => k.min ≤ n ∧ n ≤ k.max
 | .str s => s.length ≤ maxLen
 | .list _ _ l => l.length ≤ maxLen ∧ V.ee l
 | .agg cs | .tuple cs | .box cs _ => V.ee cs
 | .iface _ x => V.wf x
 | _ => True
def V.ee : List V → Prop
 | [] => True
 | c :: cs => V.wf c ∧ V.ee cs
end
def O.wf : O → Prop
 | .cells cs => V.ee cs
 | .buf _ _ l => l.length ≤ maxLen ∧ V.ee l
 | .siter s _ => s.length ≤ maxLen
 | .map _ _ es bs _ => es.length = bs.length
 | _ => True
def l7 : List (Nat × V) → List Nat → Prop
 | [], _ => True
 | (t, x) :: r, seen => (match aP t seen with
   | true => True
   | false => x.wf) ∧ l7 r (t :: seen)
def gn : List O → Prop
 | [] => True
 | o :: os => o.wf ∧ gn os

def ou (s : AS) (c : Operand) (b : Bool) (K : AS → Prop) : Prop := match c, s with
 | .tmp t, ⟨nt, tm, sg, kl⟩ => K ⟨nt, (t, .bool b) :: tm, sg, kl⟩
 | _, s => K s

def swp (i j k : Nat) : Nat := cond (Nat.beq k i) j (cond (Nat.beq k j) i k)
def qq (f : Nat → Option Nat) : List (Nat × V) → List (Nat × V)
 | [] => []
 | (t, x) :: r => (t, x.bz f) :: qq f r
def swapAt (sg : List O) (i j : Nat) : List O := ec (ec sg i (aL sg j)) j (aL sg i)
def jY : List V → Nat → V → List V
 | [], _, _ => []
 | _ :: xs, 0, y => y :: xs
 | x :: xs, n + 1, y => x :: jY xs n y
mutual
def V.put (i : Nat) (y : V) (z : Nat → V) : V → V
 | .buf j => cond (Nat.beq j i) y (.buf j)
 | .agg cs => .agg (V.lU i y z cs)
 | .tuple cs => .tuple (V.lU i y z cs)
 | .iface t x => .iface t (V.put i y z x)
 | .func f a b => .func f (V.lU i y z a) (V.lU i y z b)
 | .undef => .undef | .int k n => .int k n | .bool b => .bool b | .str s => .str s | .list c z l => .list c z l
 | .nilptr => .nilptr | .box cs o => .box cs o | .nilIface => .nilIface | .nilFunc => .nilFunc | .nilmap => .nilmap
 | .ptr j o => cond (Nat.beq j i) (z o) (.ptr j o)
 | .bptr j a o => .bptr j a o | .map j => .map j
def V.lU (i : Nat) (y : V) (z : Nat → V) : List V → List V
 | [] => []
 | c :: cs => V.put i y z c :: V.lU i y z cs
end
def O.put (i : Nat) (y : V) (z : Nat → V) : O → O
 | .cells cs => .cells (V.lU i y z cs)
 | .dead => .dead | .buf a b l => .buf a b l | .siter s p => .siter s p | .map a sh es bs ck => .map a sh es bs ck
 | .miter m bs ck l x => .miter (V.put i y z m) bs ck l x
def hO (i : Nat) (y : V) (z : Nat → V) : List O → List O
 | [] => []
 | o :: os => o.put i y z :: hO i y z os
def na (i : Nat) (y : V) (z : Nat → V) : List (Nat × V) → List (Nat × V)
 | [] => []
 | (t, x) :: r => (t, V.put i y z x) :: na i y z r
def AS.jU (s : AS) : dR → AS
 | .tm t sz => match lk s.tm t, sz with
   | .list true _ [], sz + 1 => ⟨s.nt, (t, .buf s.sg.length) :: s.tm, s.sg ++ [.buf (sz + 1) 0 []], s.kl⟩
   | _, _ => s
 | .cell i off sz => match aL s.sg i, sz with
   | .cells cs, sz + 1 => match ja cs off with
     | some (.list true _ []) => ⟨s.nt, s.tm, ec s.sg i (.cells (jY cs off (.buf s.sg.length))) ++ [.buf (sz + 1) 0 []], s.kl⟩
     | _ => s
   | _, _ => s
 | .swap i j => match Nat.blt i s.sg.length && Nat.blt j s.sg.length with
   | true => ⟨s.nt, qq (fun k => some (swp i j k)) s.tm, iu (fun k => some (swp i j k)) (swapAt s.sg i j), i :: j :: s.kl⟩
   | false => s
 | .nw => ⟨s.nt, s.tm, s.sg ++ [.buf 1 0 []], s.kl⟩
 | .res => ⟨s.nt, s.tm, s.sg ++ [.dead], s.kl⟩
 | .bk i => match aL s.sg i with
   | .buf sz _ l => ⟨s.nt, na i (.list false sz l) (.ptr i) s.tm, ec (hO i (.list false sz l) (.ptr i) s.sg) i .dead, s.kl⟩
   | _ => s
 | .fbx i => match aL s.sg i with
   | .cells cs => cond (V.eJ cs) ⟨s.nt, na i (.buf i) (.box cs) s.tm, ec (hO i (.buf i) (.box cs) s.sg) i .dead, s.kl⟩ s
   | _ => s
def AS.cC (s : AS) : List dR → AS
 | [] => s
 | p :: ps => (s.jU p).cC ps

def wj (s : AS) (K : AS → Prop) : Prop := match s with
 | ⟨nt, tm, sg, kl⟩ => lA tm fun tm => ir sg fun sg => gS kl fun kl => K ⟨nt, tm, sg, kl⟩
@[simp] theorem Px (s : AS) (K : AS → Prop) : wj s K = K s := by cases s; simp [wj]
def um (s : AS) (ps : List dR) (K : AS → Prop) : Prop := match ps with
 | [] => K s
 | p :: ps => wj (s.cC (p :: ps)) K
theorem xA (s : AS) (ps : List dR) (K : AS → Prop) : um s ps K = K (s.cC ps) := by cases ps <;> simp [um, AS.cC]

def qV (id : Nat) (K : Ex → AS → Prop) (e : Ex) (s : AS) : Prop := match e with
 | .exit j => match Nat.beq j id with
   | true => K .norm s
   | false => K (.exit j) s
 | e => K e s
inductive aT (n : Nat) (s : AS) (R : AS → (Ex → AS → Prop) → Prop) (K : Ex → AS → Prop) : Prop where
 | mk (X : Type) (inv : X → Prop) (I : X → AS) (μ : X → Nat) (ps : List dR) (x0 : X) (h0 : inv x0) (hs : Sub n (s.cC ps) (I x0))
  (h : ∀ x, inv x → l7 (I x).tm [] → gn (I x).sg → R (I x) (ng (fun s' => ∃ (qs : List dR) (x' : X), inv x' ∧ Sub n (s'.cC qs) (I x') ∧ μ x' < μ x) K))

def tO (l : Nat) (f : AS → Prop) (K : Ex → AS → Prop) (e : Ex) (s : AS) : Prop := match e with
 | .goto j => match Nat.beq j l with
   | true => f s
   | false => False
 | e => K e s
def n8 (K : Ex → AS → Prop) (e : Ex) (s : AS) : Prop := match e with
 | .goto _ => False
 | e => K e s
inductive nD (n l : Nat) (s : AS) (R : AS → (Ex → AS → Prop) → Prop) (K : Ex → AS → Prop) : Prop where
 | mk (X : Type) (inv : X → Prop) (I : X → AS) (μ : X → Nat) (ps : List dR) (x0 : X) (h0 : inv x0) (hs : Sub n (s.cC ps) (I x0))
  (h : ∀ x, inv x → l7 (I x).tm [] → gn (I x).sg → R (I x) (tO l (fun s' => ∃ (qs : List dR) (x' : X), inv x' ∧ Sub n (s'.cC qs) (I x') ∧ μ x' < μ x) K))

structure l8 (n : Nat) (st0 : St) (g0 : ay) (st : St) (g : ay) (s : AS) : Prop where
 mono : ∀ b o v, st0 b o = some v → st b o = some v
 bm : ∀ i, i < n → aP i s.kl = false → g i = g0 i
 len : n ≤ s.sg.length
structure fS (E0 E : Env) : Prop where
 G : ∀ b, E.G b → E0.G b
 w0 : ∀ b, ¬ E0.G b → E.w0.heap[b]? = E0.w0.heap[b]?
 os : E.w0.os = E0.w0.os
 tape : E.w0.tape = E0.w0.tape
 output : E.w0.output = E0.w0.output
 size : E0.w0.heap.size ≤ E.w0.heap.size
 st0 : E.st0 = E0.st0
 gnew : ∀ b, E0.w0.heap.size ≤ b → E0.G b
 ds : ∃ Ds : List Nat, E.ds = Ds.map (fun D => { target := .collected D, args := #[] }) ++ E0.ds ∧ Ds.Nodup ∧ ∀ D ∈ Ds, E0.G D ∧ ¬ E.G D ∧ E.w0.heap[D]? = some (.deferred (some []))
abbrev YT : Type := List V → List O → List Nat → Option (Prop × V × List O × List Nat)
def vI (C : Ctx) (E : Env) (n : Nat) (st0 : St) (g0 : ay) (l : Nat) (Y : YT) : Prop := ∀ args (s : AS) pre x sg' ks, Y args s.sg s.kl = some (pre, x, sg', ks) → pre → ∀ (st : St) (g : ay) (w : World) (vs : List Value), aR E st g s.sg w → aW C.gl st → aJ st g args s.sg.length vs → l8 n st0 g0 st g s →
 YieldAt Fence.wide 0 C.P l vs.toArray w fun en w' => ∃ v st' g', en = .returned v ∧ aR E st' g' sg' w' ∧ VR st' g' x sg'.length v ∧ gH E st g s.sg.length st' g' sg'.length ks
def vC (C : Ctx) (gf : FuncId) (lb : List V) (σ : List O) (Y : YT) (r : List O) (ks : List Nat) : Prop :=
 kj C.P gf ∧ ∀ (E : Env) (st : St) (g : ay) (w : World) (l : Nat) (vs : List Value), aR E st g σ w → aW C.gl st → E.ds = [] → aJ st g lb σ.length vs →
  (∀ E', fS E E' → vI C E' σ.length st g l Y) →
  Calls C.P gf (.func (.yield l) #[] #[] :: vs).toArray w fun e w' => ∃ v st' g', e = .returned v ∧ aR E st' g' r w' ∧ (∀ b o v, st b o = some v → st' b o = some v) ∧ σ.length ≤ r.length ∧ ∀ i, i < σ.length → aP i ks = false → g' i = g i
def qF (tm : List (Nat × V)) (kl : List Nat) : List (Nat × V) → Prop
 | [] => True
 | (t, x) :: r => (lk tm t = x ∧ x.kill kl = x) ∧ qF tm kl r
def tX (n : Nat) (ks : List Nat) : List Nat → Bool
 | [] => true
 | k :: kl => (aP k ks || Nat.ble n k) && tX n ks kl
def Aa (n : Nat) (sg' : List O) (ks : List Nat) (s : AS) : Prop := ∃ ps : List dR, fC (s.cC ps).sg sg' sg'.length ∧ tX n ks (s.cC ps).kl = true ∧ n ≤ sg'.length
def gb : Code → Bool
 | .skip | .label _ | .exit _ | .ret | .goto _ => true
 | .region _ _ d => !d
 | .seq a b | .cond _ a b => gb a && gb b
 | .block _ a | .loop a => gb a
 | _ => false
def p0 : List Nat → List V → List (Nat × V) → List (Nat × V)
 | p :: ps, x :: xs, tm => p0 ps xs ((p, x) :: tm)
 | _, _, tm => tm
inductive sT (C : Ctx) (s : AS) (g : Operand) (ps : Array Tmp) (A B : Nat → AS → (Ex → AS → Prop) → Prop) (K : Ex → AS → Prop) : Prop where
 | mk (ps0 : List dR) (gf : FuncId) (lb : List V) (Y : YT) (tmI tmE : List (Nat × V)) (r : List O) (ks : List Nat)
     (hyd : C.yd = fun _ _ _ _ => none) (hp : la ps.toList s.nt = true) (hg : (s.cC ps0).ev C g = .func (.func gf) [] lb) (hseq : vC C gf lb (s.cC ps0).sg Y r ks)
     (hround : ∀ args (s' : AS) pre y sg' ks', Y args s'.sg s'.kl = some (pre, y, sg', ks') → pre → V.ee args → gn s'.sg → ps.toList.length = args.length ∧ y = .bool true ∧ qF (s.cC ps0).tm s'.kl tmI ∧
      A s'.sg.length ⟨s.nt, p0 ps.toList args tmI, s'.sg, []⟩ (fun ex s1 => ex = .norm ∧ B s'.sg.length s1 (fun ex s2 => ex = .norm ∧ Aa s'.sg.length sg' ks' s2)))
     (hend : qF (s.cC ps0).tm ks tmE ∧ K .norm ⟨s.nt, tmE, r, ep ks (s.cC ps0).kl⟩)

def vc (C : Ctx) (n : Nat) : Code → AS → (Ex → AS → Prop) → Prop
 | .skip, s, K => K .norm s
 | .label _, s, K => K .norm s
 | .region id ops false, s, K => um s (C.hint id) fun s => eO C ops.toList false ops.toList s K
 | .region id ops true, s, K => um s (C.hint id) fun s => cond (C.pdr id) (A7 C ops.toList s K) (kz C ops.toList ops.toList 0 [] s (K .norm))
 | .seq a b, s, K => vc C n a s (ng (fun s' => vc C n b s' K) K)
 | .cond c x y, s, K => match s.ev C c with
   | .bool b => c8 b (ou s c true fun s => vc C n x s K) (ou s c false fun s => vc C n y s K)
   | _ => False
 | .block id c, s, K => vc C n c s (qV id K)
 | .loop c, s, K => aT n s (vc C n c) K
 | .scope (.seq a (.seq (.label l) b)), s, K => match findLabel a l with
   | none => vc C n a s (ng (fun s' => nD n l s' (vc C n b) K) (n8 K))
   | some _ => False
 | .scope c, s, K => vc C n c s (n8 K)
 | .exit id, s, K => K (.exit id) s
 | .goto l, s, K => K (.goto l) s
 | .ret, s, K => K .ret s
 | .rangeFunc g ps assign body, s, K => ic (gb assign && gb body) (sT C s g ps (fun m => vc C m assign) (fun m => vc C m body) K)
 | _, _, _ => False

def lq : List V → Nat → List (Nat × V)
 | [], _ => []
 | x :: xs, i => (i, x) :: lq xs (i + 1)
def xx (agg : Bool) (size : Nat) (cs : List V) (off : Nat) : Option V := match agg with
 | true => match gk (ik cs off) size with
   | some r => some (.agg r)
   | none => none
 | false => ja cs off
def nf (  ti : TypeId → TI) (s : AS) : List ResultVar → Option (List V)
 | [] => some []
 | .tmp t :: r => match nf ti s r with
   | some xs => some (lk s.tm t :: xs)
   | none => none
 | .cell b t :: r => match lk s.tm b with
   | .ptr i off => match aL s.sg i with
     | .cells cs => match (ti t).k with
       | .other => none
       | k => match xx k.isAgg (ti t).size cs off, nf ti s r with
         | some x, some xs => some (x :: xs)
         | _, _ => none
     | _ => none
   | _ => none
def sk (ti : TypeId → TI) (s : AS) (rs : List ResultVar) : Option V := match nf ti s rs with
 | some [x] => some x
 | some xs => some (.tuple xs)
 | none => none

def mT (sg : List O) (bm : Bool) : List Nat → Bool
 | [] => true
 | k :: ks => (match aL sg k with
   | .buf _ _ _ => !bm
   | _ => Nat.ble sg.length k) && mT sg bm ks

def EndQ (ti : TypeId → TI) (rs : List ResultVar) (sg : List O) (x : V) (r : Option (List O)) (s : AS) : Prop := fk (sk ti s rs) fun y => match r with
 | none => y = x ∧ x.ff sg.length = true ∧ fC s.sg sg sg.length ∧ mT sg true s.kl = true
 | some sg' => y = x ∧ x.ff sg'.length = true ∧ fC s.sg sg' sg'.length ∧ mT sg (fO sg') s.kl = true ∧ Nat.ble sg.length sg'.length = true
inductive af (ti : TypeId → TI) (rs : List ResultVar) (sg : List O) (x : V) (r : Option (List O)) (s : AS) : Prop where
 | mk (ps : List dR) (h : EndQ ti rs sg x r (s.cC ps))
def Ends (ti : TypeId → TI) (rs : List ResultVar) (sg : List O) (x : V) (r : Option (List O)) (e : Ex) (s : AS) : Prop := match e with
 | .exit _ => False
 | .goto _ => False
 | .pan _ => False
 | _ => af ti rs sg x r s
def PanQ (sg : List O) (r : Option (List O)) (s : AS) : Prop := match r with
 | none => fC s.sg sg sg.length ∧ mT sg true s.kl = true
 | some sg' => fC s.sg sg' sg'.length ∧ mT sg (fO sg') s.kl = true ∧ Nat.ble sg.length sg'.length = true
inductive PanP (sg : List O) (r : Option (List O)) (s : AS) : Prop where
 | mk (ps : List dR) (h : PanQ sg r (s.cC ps))
end Go.VG
namespace Go.VG
open Go

def vw (P : Program) (t : TypeId) (sh : List Sc) : Prop := ∀ (st : St) (g : ay) (n : Nat) (cs ds : List V) (r : Bool) (a b : Array Value) (w : World),
 cA sh cs = true → cA sh ds = true → eqs cs ds = some r → cs.length = P.cellsOf t → aJ st g cs n a.toList → aJ st g ds n b.toList → (Op.equal t (.agg a) (.agg b)).run P w = .ok r w ∧ P.eqGuardType P.depth t = false

def nK (P : Program) (k : TypeId) : Bool := match P.underlying k with
 | some (.struct _) | some (.array _ _) => true
 | _ => false
def qJ (P : Program) (k : TypeId) (sh : List Sc) : Prop := WideMaps.KeyLaw P k ∧ ∀ x, im (nK P k) sh x = true → qe x → ∃ l, keyOf P k (dh x) = some l
def TK.BF (P : Program) (t : TypeId) (sh : List Sc) : TK → Prop
 | .map k _ => qJ P k sh
 | _ => vw P t sh
def TK.ok (P : Program) (t : TypeId) : TK → Prop
 | .bool => P.underlying t = some .bool
 | .int k => P.underlying t = some (.int k)
 | .string => P.underlying t = some .string
 | .slice e => P.underlying t = some (.slice e)
 | .array n e => P.underlying t = some (.array n e)
 | .ptr e => P.underlying t = some (.pointer e)
 | .struct fs => ∃ fields, P.underlying t = some (.struct fields) ∧ fields.toList.map (fun f => (f.offset, f.type)) = fs ∧ (fields.toList.mapM (fun f => (P.info? f.type).map fun i => (f.offset, i.size))).isSome = true
 | .iface => ∃ ms, P.underlying t = some (.interface ms)
 | .func => ∃ a b c, P.underlying t = some (.func a b c)
 | .map k e => P.underlying t = some (.map k e)
 | .other => False

def aM (P : Program) (t : TypeId) (i : TI) : Prop := match i.k with
 | .other => True
 | k => k.ok P t ∧ (∃ info, P.info? t = some info ∧ info.size = i.size ∧ info.bytes = i.bytes ∧ ∃ z, info.zero = some z ∧ ∀ (st : St) (g : ay) (n : Nat), VR st g i.zero n z) ∧
  (i.feq ≠ [] → i.k.BF P t i.feq)

theorem aM.of {P : Program} {t : TypeId} {i : TI} (h : aM P t i) (hk : i.k ≠ .other) : i.k.ok P t ∧ (∃ info, P.info? t = some info ∧ info.size = i.size ∧ info.bytes = i.bytes ∧ ∃ z, info.zero = some z ∧ ∀ (st : St) (g : ay) (n : Nat), VR st g i.zero n z) ∧
     (i.feq ≠ [] → i.k.BF P t i.feq) := by
 unfold aM at h
 split at h
 . contradiction
 . exact h

section
variable {P : Program} {t : TypeId} {i : TI} (w : World)

theorem fB (h : aM P t i) (hk : i.k ≠ .other) : (sizeOf t).run P w = .ok i.size w := by
 obtain ⟨_, ⟨info, h1, h2, _⟩, _⟩ := h.of hk
 simp [sizeOf, typeInfo, h1, h2]
theorem vU (h : aM P t i) (hk : i.k ≠ .other) : P.cellsOf t = i.size := by
 obtain ⟨_, ⟨info, h1, h2, _⟩, _⟩ := h.of hk
 simp [Program.cellsOf, h1, h2]
theorem uB (h : aM P t i) (hk : i.k ≠ .other) : ∃ z, (zeroValue t).run P w = .ok z w ∧ ∀ (st : St) (g : ay) (n : Nat), VR st g i.zero n z := by
 obtain ⟨_, ⟨info, h1, h2, _, z, h4, h5⟩, _⟩ := h.of hk
 exact ⟨z, by simp [zeroValue, typeInfo, h1, h4], h5⟩
theorem ux (h : aM P t i) (hk : i.k ≠ .other) : (isAgg t).run P w = .ok i.k.isAgg w := by
 obtain ⟨h1, _, _⟩ := h.of hk
 cases hk' : i.k <;> rw [hk'] at h1 <;> simp only [TK.ok] at h1
 case struct fs => obtain ⟨f, h1, _⟩ := h1; simp [isAgg, run_underlying h1, TK.isAgg]
 case iface => obtain ⟨f, h1⟩ := h1; simp [isAgg, run_underlying h1, TK.isAgg]
 case func => obtain ⟨a, b, c, h1⟩ := h1; simp [isAgg, run_underlying h1, TK.isAgg]
 all_goals simp [isAgg, run_underlying h1, TK.isAgg]
end

theorem tL : ∀ (xs : List V) (n : Nat), ja xs n = xs[n]?
 | [], n => by cases n <;> simp [ja]
 | x :: xs, 0 => by simp [ja]
 | x :: xs, n + 1 => by simp [ja, tL xs n]
theorem qZ : ∀ (xs : List V) (n : Nat), ik xs n = xs.drop n
 | xs, 0 => by simp [ik]
 | [], n + 1 => by simp [ik]
 | x :: xs, n + 1 => by simp [ik, qZ xs n]
theorem vm : ∀ {xs : List V} {n : Nat} {r : List V}, gk xs n = some r → r = xs.take n ∧ n ≤ xs.length
 | xs, 0, r, h => by simp [gk] at h; simp [h]
 | [], n + 1, r, h => by simp [gk] at h
 | x :: xs, n + 1, r, h => by
   simp only [gk] at h
   split at h
   . rename_i r' hr
     obtain ⟨h1, h2⟩ := vm hr
     cases h
     subst h1
     exact ⟨by simp, by simpa using h2⟩
   . cases h
def over {α : Type} (xs : List α) (o : Nat) (ys : List α) : List α := xs.take o ++ ys ++ xs.drop (o + ys.length)
theorem sq : ∀ {xs : List V} {o : Nat} {ys r : List V}, i5 xs o ys = some r → r = over xs o ys ∧ (ys = [] ∨ o + ys.length ≤ xs.length)
 | xs, o, [], r, h => by simp [i5] at h; simp [over, h]
 | [], _, _ :: _, r, h => by simp [i5] at h
 | x :: xs, 0, y :: ys, r, h => by
   simp only [i5] at h
   split at h
   . rename_i r' hr
     obtain ⟨h1, h2⟩ := sq hr
     cases h
     subst h1
     refine ⟨by simp [over], .inr ?_⟩
     rcases h2 with rfl | h2
     . simp
     . simpa using h2
   . cases h
 | x :: xs, n + 1, y :: ys, r, h => by
   simp only [i5] at h
   split at h
   . rename_i r' hr
     obtain ⟨h1, h2⟩ := sq hr
     cases h
     subst h1
     refine ⟨?_, .inr ?_⟩
     . simp only [over, List.take_succ_cons, List.cons_append]
       rw [show n + 1 + (y :: ys).length = (n + (y :: ys).length) + 1 by omega, List.drop_succ_cons]
     . rcases h2 with h2 | h2
       . cases h2
       . simp at h2 ⊢; omega
   . cases h

theorem kR {α : Type} {xs : List α} {o : Nat} {ys : List α} (h : ys = [] ∨ o + ys.length ≤ xs.length) : (over xs o ys).length = xs.length := by
 rcases h with rfl | h
 . simp [over]
 . simp [over]; omega

theorem vH {st : St} {g : ay} {n o : Nat} {cs ds : List V} {vs us : List Value} (h : aJ st g cs n vs) (k : aJ st g ds n us) : aJ st g (over cs o ds) n (over vs o us) := by
 unfold over
 rw [← eD k]
 exact oV (oV (qS h) k) (qP h)

theorem dY : ∀ {sg : List O} {i : Nat} {o : O}, aL sg i = o → o ≠ .dead → sg[i]? = some o ∧ i < sg.length
 | [], i, o, h, hn => by simp [aL] at h; exact absurd h.symm hn
 | p :: ps, 0, o, h, hn => by simp [aL] at h; simp [h]
 | p :: ps, i + 1, o, h, hn => by
   simp only [aL] at h
   obtain ⟨h1, h2⟩ := dY h hn
   exact ⟨by simpa using h1, by simpa using h2⟩
theorem CD (ks : List Nat) : ∀ sg : List O, tU ks sg = sg.map (O.kill ks)
 | [] => rfl
 | o :: os => by simp [tU, CD ks os]
theorem fQ : ∀ (sg : List O) (i : Nat) (o : O), ec sg i o = sg.set i o
 | [], i, o => by simp [ec]
 | p :: ps, 0, o => by simp [ec]
 | p :: ps, i + 1, o => by simp [ec, fQ ps i o]
mutual
theorem fy : ∀ (x : V), x.kill [] = x
 | .undef | .int .. | .bool _ | .str _ | .list .. | .nilptr | .box .. | .nilIface | .nilFunc | .nilmap | .ptr .. | .bptr .. | .buf _ | .map _ => by simp [V.kill, aP]
 | .agg cs | .tuple cs => by simp [V.kill, rK cs]
 | .iface t x => by simp [V.kill, fy x]
 | .func f a b => by simp [V.kill, rK a, rK b]
theorem rK : ∀ (x : List V), V.cW [] x = x
 | [] => by simp [V.cW]
 | c :: cs => by simp [V.cW, fy c, rK cs]
end
theorem Mn (o : O) : o.kill [] = o := by cases o <;> simp [O.kill, rK, fy]
theorem ot (ks : List Nat) (sg : List O) : eH ks sg = sg.map (O.kill ks) := by
 cases ks with
 | nil => simp only [eH]; rw [show (O.kill []) = id from funext Mn]; simp
 | cons k ks => simp [eH, CD]
theorem sY (a b : List O) : gp a b = a ++ b := by cases b <;> simp [gp]

theorem CP (ks : List Nat) : ∀ (tm : List (Nat × V)) (t : Nat), lk (rM ks tm) t = (lk tm t).kill ks
 | [], t => by simp [rM, lk, V.kill]
 | (k, x) :: r, t => by
   simp only [rM, lk]
   cases Nat.beq k t <;> simp [CP ks r t]
theorem lP (ks : List Nat) (tm : List (Nat × V)) (t : Nat) : lk (gW ks tm) t = (lk tm t).kill ks := by
 cases ks with
 | nil => simp [gW, fy]
 | cons k ks => simp [gW, CP]

theorem gJ {st : St} {g : ay} {x : V} {n : Nat} {v : Value} (h : VR st g x n v) (hu : x.dz = false) : aJ st g x.cells n v.cells.toList := by
 cases x <;> first
  | (simp [V.dz] at hu; done)
  | (simp only [VR] at h
     first
      | (obtain ⟨vs, rfl, h⟩ := h; exact h)
      | (rename_i cs; obtain ⟨vs, rfl, h⟩ := h; simp only [V.cells, Value.cells]; refine cg ?_ cY; simp only [VR]; exact ⟨vs, rfl, h⟩))
  | skip
 all_goals (
  have h' := h
  simp only [VR] at h
  first
   | (subst h; simp only [V.cells, Value.cells]; exact cg h' cY)
   | (obtain ⟨rfl, _⟩ := h; simp only [V.cells, Value.cells]; exact cg h' cY)
   | (obtain ⟨_, _, rfl, _⟩ := h; simp only [V.cells, Value.cells]; exact cg h' cY)
   | (obtain ⟨_, _, _, rfl, _⟩ := h; simp only [V.cells, Value.cells]; exact cg h' cY)
   | (obtain ⟨_, _, _, rfl⟩ := h; simp only [V.cells, Value.cells]; exact cg h' cY)
   | skip)

end Go.VG
