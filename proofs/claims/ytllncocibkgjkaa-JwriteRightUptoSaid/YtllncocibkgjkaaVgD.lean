/-
  A part of the proof.
-/
import Derived.Test.YtllncocibkgjkaaVgA
import Derived.WideKeyMaps
import Derived.WideKeyEntry
set_option linter.unusedSimpArgs false
set_option linter.unusedVariables false
namespace Go.VG
open Go

inductive Ex where
 | norm | exit (id : Nat) | ret | goto (l : Nat) | pan (v : Value)
def kV (f : AS → Prop) (K : Ex → AS → Prop) (e : Ex) (s : AS) : Prop := match e with
 | .norm => f s
 | e => K e s

def AS.put (s : AS) (d : Option Nat) (v : V) : AS := ⟨s.nt, match d with
 | some d => (d, v) :: s.tm
 | none => s.tm, s.sg, s.kl⟩

def AS.back (s : AS) (d : Option Nat) (x : V) (sg : List O) (ks : List Nat) : AS :=
 ⟨s.nt, match d with
  | some d => (d, x) :: fN ks s.tm
  | none => fN ks s.tm, sg, cZ ks s.kl⟩

def jt (s : AS) (d : Option Nat) (x : V) (sg : List O) (ks : List Nat) (K : AS → Prop) : Prop := match s, d with
 | ⟨nt, tm, _, kl⟩, some d => i9 x fun x => jD (fN ks tm) fun tm => gp sg fun sg => fK (cZ ks kl) fun kl => K ⟨nt, (d, x) :: tm, sg, kl⟩
 | ⟨nt, tm, _, kl⟩, none => jD (fN ks tm) fun tm => gp sg fun sg => fK (cZ ks kl) fun kl => K ⟨nt, tm, sg, kl⟩
@[simp] theorem Bk (s : AS) (d : Option Nat) (x : V) (sg : List O) (ks : List Nat) (K : AS → Prop) : jt s d x sg ks K = K (s.back d x sg ks) := by
 obtain ⟨nt, tm, sg', kl⟩ := s
 cases d <;> simp [jt, AS.back, kz]

def cv (s : AS) : Option Nat → Bool
 | some d => Nat.blt d s.nt
 | none => true

def br : List Oper → Nat → Option Nat
 | [], _ => none
 | o :: _, 0 => o.dst
 | _ :: os, j + 1 => br os j

def iX (P : Program) (f : FuncId) : Prop := ∃ fn, P.funcs[f]? = some fn ∧ (fn.name == "runtime.NumGoroutine") = false ∧ fn.body.isNone = false

def aD (gl : Nat → Option (List V)) (st : St) : Prop := ∀ b cs, gl b = some cs → ∀ g : a9, ∃ vs, aj st g cs 0 vs ∧ ∀ j, j < vs.length → st b j = vs[j]?

structure gO (E : Env) (st : St) (g : a9) (n : Nat) (st' : St) (g' : a9) (n' : Nat) (ks : List Nat) : Prop where
 mono : ∀ b o v, st b o = some v → st' b o = some v
 aG : ∀ i, i < n → au i ks = false → g' i = g i
 len : n ≤ n'

def vH (C : Ctx) (f : FuncId) (args : List V) (sg : List O) (K : V → List O → List Nat → Prop) : Prop :=
 iX C.P f ∧ ∀ (E : Env) (st : St) (g : a9) (w : World) (vs : List Value), ar E st g sg w → aD C.gl st → aj st g args sg.length vs →
  Calls C.P f vs.toArray w fun e w' => ∃ v x sg' ks st' g', e = .returned v ∧ ar E st' g' sg' w' ∧ VR st' g' x sg'.length v ∧ gO E st g sg.length st' g' sg'.length ks ∧ K x sg' ks

def yieldOf (C : Ctx) (s : AS) (c : Call) : Option (Nat × List V) :=
 match c.callee with
 | .value x => match s.ev C x with
   | .func (.yield l) [] [] => some (l, s.aT C c.args.toList)
   | _ => none
 | _ => none
def qU    (C : Ctx) (s : AS) (x : Operand) (d : Option Nat) (K : Ef → AS → Prop) : Prop := match s.ev C x with
 | .ptr k 0 => match ao s.sg k with
   | .miter (.map i) bs ck left _ => match ao s.sg i with
     | .map _ _ _ bs' ck' => (bs' = bs ∧ ck' = ck) ∧ (left = [] → d5 s d ⟨.tuple [.bool false], [], [], [], [k, i]⟩ fun s' => K ⟨.tuple [.bool false], [], [], [], [k, i]⟩ s') ∧
      (∀ j, j ∈ left → d5 s d ⟨.tuple [.bool true, .undef, .undef], [], [(k, .miter (.map i) bs ck (left.erase j) j)], [], [k, i]⟩ fun s' => K ⟨.tuple [.bool true, .undef, .undef], [], [(k, .miter (.map i) bs ck (left.erase j) j)], [], [k, i]⟩ s')
     | _ => False
   | _ => False
 | _ => False
def lT (s : AS) (e : Ef) (X : Value → AS → Prop) : Prop := fJ e fun e => dJ (iq e.v) fun u => d5 s none ⟨.undef, e.ks, e.up, e.nw, e.rd⟩ (X u)
def xh (C : Ctx) (ops : List Oper) (o : Oper) (s : AS) (R : Ex → AS → Prop) : Prop :=
 fZ (cv s o.dst) (match o.guard with
 | none => go s
 | some (j, want) => match br ops j with
   | none => False
   | some t => match lk s.tm t with
     | .bool b => bg b (cond want (run' (.bool true) t) (skip (.bool true) t)) (cond want (skip (.bool false) t) (run' (.bool false) t))
     | .tuple [] => skip (.tuple []) t
     | _ => False)
where
 go (s : AS) : Prop := match o.op with
   | .call c => match target C s c with
     | some (f, args) => match dy C s.sg f args with
       | some (pre, e) => pre ∧ fJ e fun e => d5 s o.dst e (R .norm)
       | none => match dy C.fP s.sg f args, dy C.ir s.sg f args with
         | some (p, e1), some (q, e2) => (p ∨ q) ∧ (p → lT s e1 fun u => R (.pan u)) ∧ (q → fJ e2 fun e => d5 s o.dst e (R .norm))
         | _, _ => vH C f args s.sg fun x sg ks => jt s o.dst x sg ks (R .norm)
     | none => match yieldOf C s c with
       | some (l, args) => match C.yd l args s.sg s.kl with
         | some (pre, x, sg', ks) => pre ∧ jt s o.dst x sg' ks (R .norm)
         | none => False
       | none => bB C s o fun e => d5 s o.dst e (R .norm)
   | .next x false => qU C s x o.dst fun _ s' => R .norm s'
   | .panic x => dJ (iq (s.ev C x)) fun u => R (.pan u) s
   | _ => bB C s o fun e => d5 s o.dst e (R .norm)
 run' (b : V) (t : Nat) : Prop := d5 s (some t) (pe b) go
 skip (b : V) (t : Nat) : Prop := d5 s (some t) (pe b) fun s => d5 s o.dst (pe (.tuple [])) (R .norm)

def qO (C : Ctx) (ops : List Oper) (o : Oper) (rest : List Oper) : Option (Nat × Nat) := match o.op, o.dst, rest with
  | .buildSlice t _ _, some d, o2 :: _ => match o2.op, o2.dst, (C.ti t).k with
    | .convert a b (.tmp d'), some d2, .slice e => match (C.ti e).k with
      | .int .u8 => cond (Nat.beq a t && Nat.beq b t && Nat.beq d d' && !C.lits d) (match o.guard, o2.guard with
        | none, none => some (d, d2)
        | some (j, x), some (j', x') => match br ops j with
          | some u => cond (Nat.beq j j' && Bool.and (x == x') (!Nat.beq u d)) (some (d, d2)) none
          | none => none
        | _, _ => none) none
      | _ => none
    | _, _, _ => none
  | _, _, _ => none
def fg (s : AS) (p : Option (Nat × Nat)) (K : Bool → AS → Prop) : Prop := match p with
 | none => K false s
 | some (d, d2) => fZ (Nat.blt d2 s.nt) (i9 (lk s.tm d) fun x => K true (s.put (some d2) x))

def dk (C : Ctx) (ops : List Oper) : Bool → List Oper → AS → (Ex → AS → Prop) → Prop
 | _, [], s, K => K .norm s
 | true, _ :: rest, s, K => dk C ops false rest s K
 | false, o :: rest, s, K => xh C ops o s (kV (fun s' => fg s' (qO C ops o rest) fun b s'' => dk C ops b rest s'' K) K)

def dU (C : Ctx) (ops : List Oper) (o : Oper) (s : AS) (K : Ef → AS → Prop) (U : AS → V → List O → List Nat → Prop) (X : Value → AS → Prop) : Prop :=
 fZ (cv s o.dst) (match o.guard with
 | none => run
 | some (j, want) => match br ops j with
   | none => False
   | some t => match lk s.tm t with
     | .bool b => bg b (cond want (run' (.bool true) t) (skip (.bool true) t)) (cond want (skip (.bool false) t) (run' (.bool false) t))
     | .tuple [] => skip (.tuple []) t
     | _ => False)
where
 go (s : AS) : Prop := match o.op with
   | .call c => match target C s c with
     | some (f, args) => match dy C s.sg f args with
       | some (pre, e) => pre ∧ fJ e fun e => d5 s o.dst e fun s' => K e s'
       | none => match dy C.fP s.sg f args, dy C.ir s.sg f args with
         | some (p, e1), some (q, e2) => (p ∨ q) ∧ (p → lT s e1 X) ∧ (q → fJ e2 fun e => d5 s o.dst e fun s' => K e s')
         | _, _ => vH C f args s.sg (U s)
     | none => match yieldOf C s c with
       | some (l, args) => match C.yd l args s.sg s.kl with
         | some (pre, x, sg', ks) => pre ∧ U s x sg' ks
         | none => False
       | none => bB C s o fun e => d5 s o.dst e fun s' => K e s'
   | .next x false => qU C s x o.dst K
   | .panic x => dJ (iq (s.ev C x)) fun u => X u s
   | _ => bB C s o fun e => d5 s o.dst e fun s' => K e s'
 run : Prop := go s
 run' (b : V) (t : Nat) : Prop := d5 s (some t) (pe b) fun s => go s
 skip (b : V) (t : Nat) : Prop := d5 s (some t) (pe b) fun s => d5 s o.dst (pe (.tuple [])) fun s' => K (pe (.tuple [])) s'

theorem Cz (C : Ctx) (ops : List Oper) (o : Oper) (s : AS) (f : AS → Prop) (K : Ex → AS → Prop) : xh C ops o s (kV f K) = dU C ops o s (fun _ s' => f s') (fun s x sg ks => jt s o.dst x sg ks f) (fun u s' => K (.pan u) s') := rfl

def jK : Option Operand → List Operand
 | some x => [x]
 | none => []
def pg : List (Nat × Operand) → List Operand
 | [] => []
 | (_, x) :: r => x :: pg r
def fY : Op → List Operand
 | .move x | .assign x | .box _ x | .load _ x | .nilCheck x | .unOp _ _ x | .convert _ _ x | .makeInterface _ x | .fieldAddr _ x _ | .field _ x _ | .range _ x | .next x _ | .typeAssert x _ _ _ | .extract x _ => [x]
 | .pick c a b => [c, a, b]
 | .makeMap _ r => jK r
 | .lookup _ a b _ | .mapEntry _ a b => [a, b]
 | .mapUpdate _ a b c | .entryStore _ a b c => [a, b, c]
 | .entry x => [x]
 | .build _ ps | .buildSlice _ _ ps => pg ps.toList
 | .store _ a v | .binOp _ _ a v _ | .makeSlice _ a v | .indexAddr _ a v | .index _ a v => [a, v]
 | .makeFunc _ a b => a.toList ++ b.toList
 | .slice _ x lo hi mx => x :: (jK lo ++ (jK hi ++ jK mx))
 | .call c => match c.callee with
   | .value f => f :: c.args.toList
   | .invoke r _ => r :: c.args.toList
   | .builtin _ => c.args.toList
 | _ => []
def tmpsOf : List Operand → List Nat
 | [] => []
 | .tmp t :: r => t :: tmpsOf r
 | _ :: r => tmpsOf r
def n7 (ops : List Oper) : Option (Nat × Bool) → List Nat
 | none => []
 | some (j, _) => match br ops j with
   | some t => [t]
   | none => []
def looks (ops : List Oper) (o : Oper) : List Nat := tmpsOf (fY o.op) ++ n7 ops o.guard

mutual
def V.free (ks : List Nat) : V → Bool
 | .ptr j _ | .bptr j _ _ | .buf j | .map j => !au j ks
 | .agg cs | .tuple cs => V.j7 ks cs
 | .iface _ x => V.free ks x
 | .func _ fs cs => V.j7 ks fs && V.j7 ks cs
 | _ => true
def V.j7 (ks : List Nat) : List V → Bool
 | [] => true
 | c :: cs => V.free ks c && V.j7 ks cs
end
mutual
def V.jP : V → Bool
 | .undef => false
 | .agg cs | .tuple cs => V.jk cs
 | .iface _ x => V.jP x
 | .func _ fs cs => V.jk fs && V.jk cs
 | _ => true
def V.jk : List V → Bool
 | [] => true
 | c :: cs => V.jP c && V.jk cs
end
def kD (ks : List Nat) : List O → Bool
 | [] => true
 | .cells cs :: os => V.j7 ks cs && kD ks os
 | .miter m _ _ _ _ :: os => V.free ks m && kD ks os
 | _ :: os => kD ks os
def kZ : List O → Bool
 | [] => true
 | .cells cs :: os => V.jk cs && kZ os
 | .miter m _ _ _ _ :: os => V.jP m && kZ os
 | .dead :: _ => false
 | _ :: os => kZ os
def ic (sg : List O) : List Nat → List O
 | [] => []
 | i :: is => ao sg i :: ic sg is

structure Rc where
 d : Option Nat
 us : List Nat
 anc : List Nat
 e : Ef
 n : Nat
 ov : List V
 oo : List O
 lu : Nat × List Nat

def quiet (e : Ef) : Bool := match e with
 | ⟨_, [], [], [], _⟩ => true
 | _ => false
def ow (d : Option Nat) (us : List Nat) : Bool := match d with
 | some d => !au d us
 | none => true
def wU : Option Nat → Option Nat → Bool
 | some a, some b => !Nat.beq a b
 | _, _ => true
def o9 : List (Nat × O) → List Nat → Bool
 | [], _ => true
 | (i, _) :: r, rd => !au i rd && o9 r rd
def nZ : List Nat → Nat → Bool
 | [], _ => true
 | i :: is, n => Nat.blt i n && nZ is n
def jf (o : Oper) : Nat × List Nat := match o.guard, o.op with
 | none, .lookup t (.tmp m) (.tmp x) false => (1, [t, m, x])
 | none, .mapEntry t (.tmp m) (.tmp x) => (2, [t, m, x])
 | _, _ => (0, [])
def qo : List Nat → List Nat → Bool
 | [], [] => true
 | a :: r, b :: q => Nat.beq a b && qo r q
 | _, _ => false
def pf (j i : Rc) : Bool := Nat.beq j.lu.1 1 && (Nat.beq i.lu.1 2 && qo j.lu.2 i.lu.2)
def indep (j i : Rc) : Bool :=
 ow j.d i.us && ow i.d j.us && wU i.d j.d && (pf j i ||
 match quiet j.e, quiet i.e with
  | true, true => true
  | true, false => V.j7 i.e.ks j.ov && kD i.e.ks j.oo && V.free i.e.ks j.e.v && o9 i.e.up j.e.rd && nZ j.e.rd i.n
  | false, true => V.jk i.ov && kZ i.oo && V.free j.e.ks i.e.v && o9 j.e.up i.e.rd && nZ i.e.rd j.n
  | false, false => false)
def lH (i : Rc) : List Rc → Nat → Bool
 | [], _ => true
 | j :: js, k => (au k i.anc || indep j i) && lH i js (k + 1)

def d8 : Ground → Bool
 | .textOnly _ | .gcOnly _ => false
 | _ => true
def ka : List Rc → Nat → List Nat
 | [], _ => []
 | r :: _, 0 => r.anc
 | _ :: rs, j + 1 => ka rs j
def mr (aM : List Rc) : List Edge → List Nat → List Nat
 | [], acc => acc
 | ⟨on, gr⟩ :: es, acc => cond (d8 gr) (lF (cZ (on :: ka aM on) acc) fun acc => mr aM es acc) (mr aM es acc)
def jw (i : Nat) : List Edge → Bool
 | [] => true
 | ⟨on, gr⟩ :: es => (Nat.blt on i || !d8 gr) && jw i es

def stepT (C : Ctx) (ops : List Oper) (s : AS) (o : Oper) : Tr Ef := match o.guard with
 | none => bB C s o
 | some (j, want) => match br ops j with
   | none => fail
   | some t => match lk s.tm t with
     | .bool b => cond want (iI b (bB C s o) (ret (pe (.tuple [])))) (iI b (ret (pe (.tuple []))) (bB C s o))
     | .tuple [] => ret (pe (.tuple []))
     | _ => fail

def fR (C : Ctx) (ops : List Oper) (aM : List Rc) (s : AS) (o : Oper) (e : Ef) : Rc :=
 ⟨o.dst, looks ops o, mr aM o.after.toList [], e, s.sg.length, s.aT C (fY o.op), ic s.sg e.rd, jf o⟩
def qw (r : Rc) (K : Rc → Prop) : Prop := match r with
 | ⟨d, us, anc, e, n, ov, oo, lu⟩ => fK us fun us => fK anc fun anc => fJ e fun e => bO ov fun ov => gp oo fun oo => K ⟨d, us, anc, e, n, ov, oo, lu⟩
@[simp] theorem tc (r : Rc) (K : Rc → Prop) : qw r K = K r := by cases r; simp [qw, ia]

def mH (C : Ctx) (ops : List Oper) : List Oper → Nat → List Rc → AS → (AS → Prop) → Prop
 | [], _, _, s, K => K s
 | o :: rest, i, aM, s, K => fZ (cv s o.dst && jw i o.after.toList) (stepT C ops s o fun e =>
  fJ e fun e => qw (fR C ops aM s o e) fun r => fZ (lH r aM 0) (fK (aM ++ [r]) fun aM => d5 s o.dst e fun s' => mH C ops rest (i + 1) aM s' K))

def oX (s : AS) (t : Nat) (b : Bool) (k : AS → Prop) : Prop := match s with
 | ⟨nt, tm, sg, kl⟩ => k ⟨nt, (t, .bool b) :: tm, sg, kl⟩
def rP    (C : Ctx) (ops : List Oper) (s : AS) (o : Oper) (K : Ef → AS → Prop) : Prop := match o.guard with
 | none => bB C s o fun e => K e s
 | some (j, want) => match br ops j with
   | none => False
   | some t => match lk s.tm t with
     | .bool b => cond want (bg b (oX s t true fun s => bB C s o fun e => K e s) (oX s t false fun s => K (pe (.tuple [])) s))
      (bg b (oX s t true fun s => K (pe (.tuple [])) s) (oX s t false fun s => bB C s o fun e => K e s))
     | .tuple [] => K (pe (.tuple [])) s
     | _ => False
def j4 (C : Ctx) (ops : List Oper) : List Oper → Nat → List Rc → AS → (AS → Prop) → Prop
 | [], _, _, s, K => K s
 | o :: rest, i, aM, s, K => fZ (cv s o.dst && jw i o.after.toList) (rP C ops s o fun e s =>
  fJ e fun e => qw (fR C ops aM s o e) fun r => fZ (lH r aM 0) (fK (aM ++ [r]) fun aM => d5 s o.dst e fun s' => j4 C ops rest (i + 1) aM s' K))

def gD : List Edge → List Nat
 | [] => []
 | ⟨on, gr⟩ :: es => cond (d8 gr) (on :: gD es) (gD es)
def lp (ops : List Oper) : Nat → List Nat → List Nat
 | 0, cl => cl
 | k + 1, cl => lp ops k (cond (au k cl) (match ops[k]? with | some o => gD o.after.toList ++ cl | none => cl) cl)
def nY (l : List Nat) : Nat → Bool
 | 0 => true
 | k + 1 => au k l && nY l k
def Ctx.both (C : Ctx) : Ctx := { C with Γ := fun f a s => match C.Γ f a s with
 | some r => some r
 | none => C.ir.Γ f a s }
def tF (C : Ctx) (o : Oper) (c : Call) (K : Ex → AS → Prop) (s : AS) : Prop := match target C s c with
 | some (f, args) => match dy C.fP s.sg f args, dy C.ir s.sg f args with
   | some (p, e1), some (q, e2) => fZ (cv s o.dst) ((p ∨ q) ∧ (p → lT s e1 fun u => K (.pan u)) ∧ (q → fJ e2 fun e => d5 s o.dst e (K .norm)))
   | _, _ => False
 | none => False
def u7 (C : Ctx) (f : FuncId) (d : Tmp) (s : AS) (K : Ex → AS → Prop) (s' : AS) : Prop := match dy C.fP s.sg f [lk s'.tm d] with
 | some (p, e1) => p ∧ lT ⟨s.nt, [], s.sg, s.kl⟩ e1 fun u => K (.pan u)
 | none => False
def gK : List Oper → Nat → Oper → List Oper
 | [], _, _ => []
 | _ :: os, 0, o => o :: os
 | p :: os, i + 1, o => p :: gK os i o
def qOp : Op → Bool
 | .move _ | .load _ _ | .fieldAddr _ _ _ | .field _ _ _ | .nilCheck _ => true
 | _ => false
def nA (i : Nat) : List Oper → Nat → Bool
 | [], _ => true
 | o :: os, k => (Nat.beq k i || qOp o.op) && nA i os (k + 1)
def mE (i d : Nat) : List Oper → Nat → Bool
 | [], _ => true
 | o :: os, k => (Nat.beq k i || (match o.dst with | some d' => !Nat.beq d' d | none => true)) && mE i d os (k + 1)
def nJ (ops : List Oper) (i : Nat) : List Oper → Nat → Bool
 | [], _ => true
 | o :: os, n => au i (lp ops n (gD o.after.toList)) && nJ ops i os (n + 1)
inductive nR (C : Ctx) (ops : List Oper) (s : AS) (K : Ex → AS → Prop) : Prop where
 | last (L : List Oper) (o : Oper) (c : Call) (hops : ops = L ++ [o]) (hc : o.op = .call c) (hg : o.guard = none) (he : jw L.length o.after.toList = true) (hb : nY (lp ops L.length (gD o.after.toList)) L.length = true) (h : j4 C.both L L 0 [] s (tF C o c K))
 | pan (L T : List Oper) (i : Nat) (o : Oper) (x : Operand) (d : Tmp) (f : FuncId) (c : Call) (hops : ops = L ++ T) (hi : L[i]? = some o) (hc : o.op = .call c) (hcv : c.callee = .value (.func f)) (hca : c.args = #[x]) (hg : o.guard = none)
  (hd : o.dst = some d) (hq : nA i L 0 = true) (hu : mE i d L 0 = true) (ht : nJ ops i T L.length = true) (h : j4 C.both (gK L i { o with op := .move x }) (gK L i { o with op := .move x }) 0 [] s (u7 C f d s K))

def vn (s : AS) (n : Nat) : List (Nat × V) → Prop
 | [] => True
 | (t, x) :: r => (lk s.tm t = x ∧ x.dH n = true) ∧ vn s n r

def rQ : List Nat → List Nat → Bool
 | [], _ => true
 | k :: ks, l => au k l && rQ ks l
structure Sub (n : Nat) (s t : AS) : Prop where
 nt : s.nt = t.nt
 tm : vn s t.sg.length t.tm
 sg : dA s.sg t.sg t.sg.length
 kl : rQ s.kl t.kl = true
 len : Nat.ble n t.sg.length = true

mutual
def V.wf : V → Prop
 | .int k n => k.min ≤ n ∧ n ≤ k.max
 | .str s => s.length ≤ maxLen
 | .list _ _ l => l.length ≤ maxLen ∧ V.cV l
 | .agg cs | .tuple cs | .box cs _ => V.cV cs
 | .iface _ x => V.wf x
 | _ => True
def V.cV : List V → Prop
 | [] => True
 | c :: cs => V.wf c ∧ V.cV cs
end
def O.wf : O → Prop
 | .cells cs => V.cV cs
 | .buf _ _ l => l.length ≤ maxLen ∧ V.cV l
 | .siter s _ => s.length ≤ maxLen
 | .map _ _ es bs _ => es.length = bs.length
 | _ => True
def jT : List (Nat × V) → List Nat → Prop
 | [], _ => True
 | (t, x) :: r, seen => (match au t seen with
   | true => True
   | false => x.wf) ∧ jT r (t :: seen)
def ey : List O → Prop
 | [] => True
 | o :: os => o.wf ∧ ey os

def lM (s : AS) (c : Operand) (b : Bool) (K : AS → Prop) : Prop := match c, s with
 | .tmp t, ⟨nt, tm, sg, kl⟩ => K ⟨nt, (t, .bool b) :: tm, sg, kl⟩
 | _, s => K s

def eX (i j k : Nat) : Nat := cond (Nat.beq k i) j (cond (Nat.beq k j) i k)
def nB (f : Nat → Option Nat) : List (Nat × V) → List (Nat × V)
 | [] => []
 | (t, x) :: r => (t, x.aS f) :: nB f r
def swapAt (sg : List O) (i j : Nat) : List O := eb (eb sg i (ao sg j)) j (ao sg i)
def iT : List V → Nat → V → List V
 | [], _, _ => []
 | _ :: xs, 0, y => y :: xs
 | x :: xs, n + 1, y => x :: iT xs n y
mutual
def V.put (i : Nat) (y : V) : V → V
 | .buf j => cond (Nat.beq j i) y (.buf j)
 | .agg cs => .agg (V.jN i y cs)
 | .tuple cs => .tuple (V.jN i y cs)
 | .iface t x => .iface t (V.put i y x)
 | .func f a b => .func f (V.jN i y a) (V.jN i y b)
 | .undef => .undef | .int k n => .int k n | .bool b => .bool b | .str s => .str s | .list c z l => .list c z l
 | .nilptr => .nilptr | .box cs o => .box cs o | .nilIface => .nilIface | .nilFunc => .nilFunc | .nilmap => .nilmap
 | .ptr j o => .ptr j o | .bptr j a o => .bptr j a o | .map j => .map j
def V.jN (i : Nat) (y : V) : List V → List V
 | [] => []
 | c :: cs => V.put i y c :: V.jN i y cs
end
def O.put (i : Nat) (y : V) : O → O
 | .cells cs => .cells (V.jN i y cs)
 | .dead => .dead | .buf a b l => .buf a b l | .siter s p => .siter s p | .map a sh es bs ck => .map a sh es bs ck
 | .miter m bs ck l x => .miter (V.put i y m) bs ck l x
def iS (i : Nat) (y : V) : List O → List O
 | [] => []
 | o :: os => o.put i y :: iS i y os
def nz (i : Nat) (y : V) : List (Nat × V) → List (Nat × V)
 | [] => []
 | (t, x) :: r => (t, V.put i y x) :: nz i y r
def AS.jL (s : AS) : du → AS
 | .tm t sz => match lk s.tm t, sz with
   | .list true _ [], sz + 1 => ⟨s.nt, (t, .buf s.sg.length) :: s.tm, s.sg ++ [.buf (sz + 1) 0 []], s.kl⟩
   | _, _ => s
 | .cell i off sz => match ao s.sg i, sz with
   | .cells cs, sz + 1 => match ib cs off with
     | some (.list true _ []) => ⟨s.nt, s.tm, eb s.sg i (.cells (iT cs off (.buf s.sg.length))) ++ [.buf (sz + 1) 0 []], s.kl⟩
     | _ => s
   | _, _ => s
 | .swap i j => match Nat.blt i s.sg.length && Nat.blt j s.sg.length with
   | true => ⟨s.nt, nB (fun k => some (eX i j k)) s.tm, gz (fun k => some (eX i j k)) (swapAt s.sg i j), i :: j :: s.kl⟩
   | false => s
 | .nw => ⟨s.nt, s.tm, s.sg ++ [.buf 1 0 []], s.kl⟩
 | .dE i => match ao s.sg i with
   | .buf sz _ l => ⟨s.nt, nz i (.list false sz l) s.tm, eb (iS i (.list false sz l) s.sg) i .dead, s.kl⟩
   | _ => s
def AS.bC (s : AS) : List du → AS
 | [] => s
 | p :: ps => (s.jL p).bC ps

def tb (s : AS) (K : AS → Prop) : Prop := match s with
 | ⟨nt, tm, sg, kl⟩ => jD tm fun tm => gp sg fun sg => fK kl fun kl => K ⟨nt, tm, sg, kl⟩
@[simp] theorem IJ (s : AS) (K : AS → Prop) : tb s K = K s := by cases s; simp [tb]
def qY (s : AS) (ps : List du) (K : AS → Prop) : Prop := match ps with
 | [] => K s
 | p :: ps => tb (s.bC (p :: ps)) K
theorem ua (s : AS) (ps : List du) (K : AS → Prop) : qY s ps K = K (s.bC ps) := by cases ps <;> simp [qY, AS.bC]

def oc (id : Nat) (K : Ex → AS → Prop) (e : Ex) (s : AS) : Prop := match e with
 | .exit j => match Nat.beq j id with
   | true => K .norm s
   | false => K (.exit j) s
 | e => K e s
inductive cg (n : Nat) (s : AS) (R : AS → (Ex → AS → Prop) → Prop) (K : Ex → AS → Prop) : Prop where
 | mk (X : Type) (inv : X → Prop) (I : X → AS) (μ : X → Nat) (ps : List du) (x0 : X) (h0 : inv x0) (hs : Sub n (s.bC ps) (I x0))
  (h : ∀ x, inv x → jT (I x).tm [] → ey (I x).sg → R (I x) (kV (fun s' => ∃ (qs : List du) (x' : X), inv x' ∧ Sub n (s'.bC qs) (I x') ∧ μ x' < μ x) K))

def qA (l : Nat) (f : AS → Prop) (K : Ex → AS → Prop) (e : Ex) (s : AS) : Prop := match e with
 | .goto j => match Nat.beq j l with
   | true => f s
   | false => False
 | e => K e s
def kO (K : Ex → AS → Prop) (e : Ex) (s : AS) : Prop := match e with
 | .goto _ => False
 | e => K e s
inductive l9 (n l : Nat) (s : AS) (R : AS → (Ex → AS → Prop) → Prop) (K : Ex → AS → Prop) : Prop where
 | mk (X : Type) (inv : X → Prop) (I : X → AS) (μ : X → Nat) (ps : List du) (x0 : X) (h0 : inv x0) (hs : Sub n (s.bC ps) (I x0))
  (h : ∀ x, inv x → jT (I x).tm [] → ey (I x).sg → R (I x) (qA l (fun s' => ∃ (qs : List du) (x' : X), inv x' ∧ Sub n (s'.bC qs) (I x') ∧ μ x' < μ x) K))

structure iC (n : Nat) (st0 : St) (g0 : a9) (st : St) (g : a9) (s : AS) : Prop where
 mono : ∀ b o v, st0 b o = some v → st b o = some v
 aG : ∀ i, i < n → au i s.kl = false → g i = g0 i
 len : n ≤ s.sg.length
structure dB (E0 E : Env) : Prop where
 G : ∀ b, E.G b → E0.G b
 w0 : ∀ b, ¬ E0.G b → E.w0.heap[b]? = E0.w0.heap[b]?
 os : E.w0.os = E0.w0.os
 tape : E.w0.tape = E0.w0.tape
 output : E.w0.output = E0.w0.output
 size : E0.w0.heap.size ≤ E.w0.heap.size
 st0 : E.st0 = E0.st0
 gnew : ∀ b, E0.w0.heap.size ≤ b → E0.G b
 ds : ∃ Ds : List Nat, E.ds = Ds.map (fun D => { target := .collected D, args := #[] }) ++ E0.ds ∧ Ds.Nodup ∧ ∀ D ∈ Ds, E0.G D ∧ ¬ E.G D ∧ E.w0.heap[D]? = some (.deferred (some []))
abbrev YT : Type := List V → List O → List Nat → Option (Prop × V × List O × List Nat)
def sf (C : Ctx) (E : Env) (n : Nat) (st0 : St) (g0 : a9) (l : Nat) (Y : YT) : Prop := ∀ args (s : AS) pre x sg' ks, Y args s.sg s.kl = some (pre, x, sg', ks) → pre → ∀ (st : St) (g : a9) (w : World) (vs : List Value), ar E st g s.sg w → aD C.gl st → aj st g args s.sg.length vs → iC n st0 g0 st g s →
 YieldAt Fence.wide 0 C.P l vs.toArray w fun en w' => ∃ v st' g', en = .returned v ∧ ar E st' g' sg' w' ∧ VR st' g' x sg'.length v ∧ gO E st g s.sg.length st' g' sg'.length ks
def SeqOK (C : Ctx) (gf : FuncId) (lb : List V) (σ : List O) (Y : YT) (r : List O) (ks : List Nat) : Prop :=
 iX C.P gf ∧ ∀ (E : Env) (st : St) (g : a9) (w : World) (l : Nat) (vs : List Value), ar E st g σ w → aD C.gl st → E.ds = [] → aj st g lb σ.length vs →
  (∀ E', dB E E' → sf C E' σ.length st g l Y) →
  Calls C.P gf (.func (.yield l) #[] #[] :: vs).toArray w fun e w' => ∃ v st' g', e = .returned v ∧ ar E st' g' r w' ∧ (∀ b o v, st b o = some v → st' b o = some v) ∧ σ.length ≤ r.length ∧ ∀ i, i < σ.length → au i ks = false → g' i = g i
def nL (tm : List (Nat × V)) (kl : List Nat) : List (Nat × V) → Prop
 | [] => True
 | (t, x) :: r => (lk tm t = x ∧ x.kill kl = x) ∧ nL tm kl r
def qH (n : Nat) (ks : List Nat) : List Nat → Bool
 | [] => true
 | k :: kl => (au k ks || Nat.ble n k) && qH n ks kl
def vK (n : Nat) (sg' : List O) (ks : List Nat) (s : AS) : Prop := ∃ ps : List du, dA (s.bC ps).sg sg' sg'.length ∧ qH n ks (s.bC ps).kl = true ∧ n ≤ sg'.length
def fz : Code → Bool
 | .skip | .label _ | .exit _ | .ret | .goto _ => true
 | .region _ _ d => !d
 | .seq a b | .cond _ a b => fz a && fz b
 | .block _ a => fz a
 | _ => false
inductive s9 (C : Ctx) (s : AS) (g : Operand) (ps : Array Tmp) (A B : Nat → AS → (Ex → AS → Prop) → Prop) (K : Ex → AS → Prop) : Prop where
 | mk (ps0 : List du) (gf : FuncId) (lb : List V) (Y : YT) (p : Tmp) (tmI tmE : List (Nat × V)) (r : List O) (ks : List Nat)
     (hyd : C.yd = fun _ _ _ _ => none) (hps : ps = #[p]) (hp : Nat.blt p s.nt = true) (hg : (s.bC ps0).ev C g = .func (.func gf) [] lb) (hseq : SeqOK C gf lb (s.bC ps0).sg Y r ks)
     (hround : ∀ args (s' : AS) pre y sg' ks', Y args s'.sg s'.kl = some (pre, y, sg', ks') → pre → V.cV args → ey s'.sg → ∃ x, args = [x] ∧ y = .bool true ∧ nL (s.bC ps0).tm s'.kl tmI ∧
      A s'.sg.length ⟨s.nt, (p, x) :: tmI, s'.sg, []⟩ (fun ex s1 => ex = .norm ∧ B s'.sg.length s1 (fun ex s2 => ex = .norm ∧ vK s'.sg.length sg' ks' s2)))
     (hend : nL (s.bC ps0).tm ks tmE ∧ K .norm ⟨s.nt, tmE, r, cZ ks (s.bC ps0).kl⟩)

def vc (C : Ctx) (n : Nat) : Code → AS → (Ex → AS → Prop) → Prop
 | .skip, s, K => K .norm s
 | .label _, s, K => K .norm s
 | .region id ops false, s, K => qY s (C.hint id) fun s => dk C ops.toList false ops.toList s K
 | .region id ops true, s, K => qY s (C.hint id) fun s => cond (C.pdr id) (nR C ops.toList s K) (j4 C ops.toList ops.toList 0 [] s (K .norm))
 | .seq a b, s, K => vc C n a s (kV (fun s' => vc C n b s' K) K)
 | .cond c x y, s, K => match s.ev C c with
   | .bool b => bg b (lM s c true fun s => vc C n x s K) (lM s c false fun s => vc C n y s K)
   | _ => False
 | .block id c, s, K => vc C n c s (oc id K)
 | .loop c, s, K => cg n s (vc C n c) K
 | .scope (.seq a (.seq (.label l) b)), s, K => match findLabel a l with
   | none => vc C n a s (kV (fun s' => l9 n l s' (vc C n b) K) (kO K))
   | some _ => False
 | .scope c, s, K => vc C n c s (kO K)
 | .exit id, s, K => K (.exit id) s
 | .goto l, s, K => K (.goto l) s
 | .ret, s, K => K .ret s
 | .rangeFunc g ps assign body, s, K => fZ (fz assign && fz body) (s9 C s g ps (fun m => vc C m assign) (fun m => vc C m body) K)
 | _, _, _ => False

def fh : List V → Nat → List (Nat × V)
 | [], _ => []
 | x :: xs, i => (i, x) :: fh xs (i + 1)
def u9 (agg : Bool) (size : Nat) (cs : List V) (off : Nat) : Option V := match agg with
 | true => match fA (gR cs off) size with
   | some r => some (.agg r)
   | none => none
 | false => ib cs off
def kT (  ti : TypeId → TI) (s : AS) : List ResultVar → Option (List V)
 | [] => some []
 | .tmp t :: r => match kT ti s r with
   | some xs => some (lk s.tm t :: xs)
   | none => none
 | .cell b t :: r => match lk s.tm b with
   | .ptr i off => match ao s.sg i with
     | .cells cs => match (ti t).k with
       | .other => none
       | k => match u9 k.isAgg (ti t).size cs off, kT ti s r with
         | some x, some xs => some (x :: xs)
         | _, _ => none
     | _ => none
   | _ => none
def m7 (ti : TypeId → TI) (s : AS) (rs : List ResultVar) : Option V := match kT ti s rs with
 | some [x] => some x
 | some xs => some (.tuple xs)
 | none => none

def jc (sg : List O) (aG : Bool) : List Nat → Bool
 | [] => true
 | k :: ks => (match ao sg k with
   | .buf _ _ _ => !aG
   | _ => Nat.ble sg.length k) && jc sg aG ks

def rZ (ti : TypeId → TI) (rs : List ResultVar) (sg : List O) (x : V) (r : Option (List O)) (s : AS) : Prop := dJ (m7 ti s rs) fun y => match r with
 | none => y = x ∧ x.dH sg.length = true ∧ dA s.sg sg sg.length ∧ jc sg true s.kl = true
 | some sg' => y = x ∧ x.dH sg'.length = true ∧ dA s.sg sg' sg'.length ∧ jc sg (db sg') s.kl = true ∧ Nat.ble sg.length sg'.length = true
inductive ah (ti : TypeId → TI) (rs : List ResultVar) (sg : List O) (x : V) (r : Option (List O)) (s : AS) : Prop where
 | mk (ps : List du) (h : rZ ti rs sg x r (s.bC ps))
def Ends (ti : TypeId → TI) (rs : List ResultVar) (sg : List O) (x : V) (r : Option (List O)) (e : Ex) (s : AS) : Prop := match e with
 | .exit _ => False
 | .goto _ => False
 | .pan _ => False
 | _ => ah ti rs sg x r s
def PanQ (sg : List O) (r : Option (List O)) (s : AS) : Prop := match r with
 | none => dA s.sg sg sg.length ∧ jc sg true s.kl = true
 | some sg' => dA s.sg sg' sg'.length ∧ jc sg (db sg') s.kl = true ∧ Nat.ble sg.length sg'.length = true
inductive c9 (sg : List O) (r : Option (List O)) (s : AS) : Prop where
 | mk (ps : List du) (h : PanQ sg r (s.bC ps))
def vI (u : Value) (sg : List O) (r : Option (List O)) (e : Ex) (s : AS) : Prop := match e with
 | .pan v => v = u ∧ c9 sg r s
 | _ => False

end Go.VG
namespace Go.VG
open Go

def s5 (P : Program) (t : TypeId) (sh : List Sc) : Prop := ∀ (st : St) (g : a9) (n : Nat) (cs ds : List V) (r : Bool) (a b : Array Value) (w : World),
 bP sh cs = true → bP sh ds = true → eqs cs ds = some r → cs.length = P.cellsOf t → aj st g cs n a.toList → aj st g ds n b.toList → (Op.equal t (.agg a) (.agg b)).run P w = .ok r w ∧ P.eqGuardType P.depth t = false

def ll (P : Program) (k : TypeId) : Bool := match P.underlying k with
 | some (.struct _) | some (.array _ _) => true
 | _ => false
def nT (P : Program) (k : TypeId) (sh : List Sc) : Prop := WideMaps.KeyLaw P k ∧ ∀ x, gm (ll P k) sh x = true → lS x → ∃ l, keyOf P k (c8 x) = some l
def TK.xn (P : Program) (t : TypeId) (sh : List Sc) : TK → Prop
 | .map k _ => nT P k sh
 | _ => s5 P t sh
def TK.ok (P : Program) (t : TypeId) : TK → Prop
 | .bool => P.underlying t = some .bool
 | .int k => P.underlying t = some (.int k)
 | .string => P.underlying t = some .string
 | .slice e => P.underlying t = some (.slice e)
 | .array n e => P.underlying t = some (.array n e)
 | .ptr e => P.underlying t = some (.pointer e)
 | .struct fs => ∃ fields, P.underlying t = some (.struct fields) ∧ fields.toList.map (fun f => (f.offset, f.type)) = fs ∧ (fields.toList.mapM (fun f => (P.info? f.type).map fun i => (f.offset, i.size))).isSome = true
 | .iface => ∃ ms, P.underlying t = some (.interface ms)
 | .func => ∃ a b c, P.underlying t = some (.func a b c)
 | .map k e => P.underlying t = some (.map k e)
 | .other => False

def aw (P : Program) (t : TypeId) (i : TI) : Prop := match i.k with
 | .other => True
 | k => k.ok P t ∧ (∃ info, P.info? t = some info ∧ info.size = i.size ∧ info.bytes = i.bytes ∧ ∃ z, info.zero = some z ∧ ∀ (st : St) (g : a9) (n : Nat), VR st g i.zero n z) ∧
  (i.feq ≠ [] → i.k.xn P t i.feq)

theorem aw.of {P : Program} {t : TypeId} {i : TI} (h : aw P t i) (hk : i.k ≠ .other) : i.k.ok P t ∧ (∃ info, P.info? t = some info ∧ info.size = i.size ∧ info.bytes = i.bytes ∧ ∃ z, info.zero = some z ∧ ∀ (st : St) (g : a9) (n : Nat), VR st g i.zero n z) ∧
     (i.feq ≠ [] → i.k.xn P t i.feq) := by
 unfold aw at h
 split at h
 . contradiction
 . exact h

section
variable {P : Program} {t : TypeId} {i : TI} (w : World)

theorem eV (h : aw P t i) (hk : i.k ≠ .other) : (sizeOf t).run P w = .ok i.size w := by
 obtain ⟨_, ⟨info, h1, h2, _⟩, _⟩ := h.of hk
 simp [sizeOf, typeInfo, h1, h2]
theorem sy (h : aw P t i) (hk : i.k ≠ .other) : P.cellsOf t = i.size := by
 obtain ⟨_, ⟨info, h1, h2, _⟩, _⟩ := h.of hk
 simp [Program.cellsOf, h1, h2]
theorem uu (h : aw P t i) (hk : i.k ≠ .other) : ∃ z, (zeroValue t).run P w = .ok z w ∧ ∀ (st : St) (g : a9) (n : Nat), VR st g i.zero n z := by
 obtain ⟨_, ⟨info, h1, h2, _, z, h4, h5⟩, _⟩ := h.of hk
 exact ⟨z, by simp [zeroValue, typeInfo, h1, h4], h5⟩
theorem rb (h : aw P t i) (hk : i.k ≠ .other) : (isAgg t).run P w = .ok i.k.isAgg w := by
 obtain ⟨h1, _, _⟩ := h.of hk
 cases hk' : i.k <;> rw [hk'] at h1 <;> simp only [TK.ok] at h1
 case struct fs => obtain ⟨f, h1, _⟩ := h1; simp [isAgg, run_underlying h1, TK.isAgg]
 case iface => obtain ⟨f, h1⟩ := h1; simp [isAgg, run_underlying h1, TK.isAgg]
 case func => obtain ⟨a, b, c, h1⟩ := h1; simp [isAgg, run_underlying h1, TK.isAgg]
 all_goals simp [isAgg, run_underlying h1, TK.isAgg]
end

theorem qz : ∀ (xs : List V) (n : Nat), ib xs n = xs[n]?
 | [], n => by cases n <;> simp [ib]
 | x :: xs, 0 => by simp [ib]
 | x :: xs, n + 1 => by simp [ib, qz xs n]
theorem qj : ∀ (xs : List V) (n : Nat), gR xs n = xs.drop n
 | xs, 0 => by simp [gR]
 | [], n + 1 => by simp [gR]
 | x :: xs, n + 1 => by simp [gR, qj xs n]
theorem vt : ∀ {xs : List V} {n : Nat} {r : List V}, fA xs n = some r → r = xs.take n ∧ n ≤ xs.length
 | xs, 0, r, h => by simp [fA] at h; simp [h]
 | [], n + 1, r, h => by simp [fA] at h
 | x :: xs, n + 1, r, h => by
   simp only [fA] at h
   split at h
   . rename_i r' hr
     obtain ⟨h1, h2⟩ := vt hr
     cases h
     subst h1
     exact ⟨by simp, by simpa using h2⟩
   . cases h
def over {α : Type} (xs : List α) (o : Nat) (ys : List α) : List α := xs.take o ++ ys ++ xs.drop (o + ys.length)
theorem pw : ∀ {xs : List V} {o : Nat} {ys r : List V}, fU xs o ys = some r → r = over xs o ys ∧ (ys = [] ∨ o + ys.length ≤ xs.length)
 | xs, o, [], r, h => by simp [fU] at h; simp [over, h]
 | [], _, _ :: _, r, h => by simp [fU] at h
 | x :: xs, 0, y :: ys, r, h => by
   simp only [fU] at h
   split at h
   . rename_i r' hr
     obtain ⟨h1, h2⟩ := pw hr
     cases h
     subst h1
     refine ⟨by simp [over], .inr ?_⟩
     rcases h2 with rfl | h2
     . simp
     . simpa using h2
   . cases h
 | x :: xs, n + 1, y :: ys, r, h => by
   simp only [fU] at h
   split at h
   . rename_i r' hr
     obtain ⟨h1, h2⟩ := pw hr
     cases h
     subst h1
     refine ⟨?_, .inr ?_⟩
     . simp only [over, List.take_succ_cons, List.cons_append]
       rw [show n + 1 + (y :: ys).length = (n + (y :: ys).length) + 1 by omega, List.drop_succ_cons]
     . rcases h2 with h2 | h2
       . cases h2
       . simp at h2 ⊢; omega
   . cases h

theorem jg {α : Type} {xs : List α} {o : Nat} {ys : List α} (h : ys = [] ∨ o + ys.length ≤ xs.length) : (over xs o ys).length = xs.length := by
 rcases h with rfl | h
 . simp [over]
 . simp [over]; omega

theorem se {st : St} {g : a9} {n o : Nat} {cs ds : List V} {vs us : List Value} (h : aj st g cs n vs) (k : aj st g ds n us) : aj st g (over cs o ds) n (over vs o us) := by
 unfold over
 rw [← cY k]
 exact mq (mq (pU h) k) (pT h)

theorem dm : ∀ {sg : List O} {i : Nat} {o : O}, ao sg i = o → o ≠ .dead → sg[i]? = some o ∧ i < sg.length
 | [], i, o, h, hn => by simp [ao] at h; exact absurd h.symm hn
 | p :: ps, 0, o, h, hn => by simp [ao] at h; simp [h]
 | p :: ps, i + 1, o, h, hn => by
   simp only [ao] at h
   obtain ⟨h1, h2⟩ := dm h hn
   exact ⟨by simpa using h1, by simpa using h2⟩
theorem yz (ks : List Nat) : ∀ sg : List O, qF ks sg = sg.map (O.kill ks)
 | [] => rfl
 | o :: os => by simp [qF, yz ks os]
theorem fV : ∀ (sg : List O) (i : Nat) (o : O), eb sg i o = sg.set i o
 | [], i, o => by simp [eb]
 | p :: ps, 0, o => by simp [eb]
 | p :: ps, i + 1, o => by simp [eb, fV ps i o]
mutual
theorem eF : ∀ (x : V), x.kill [] = x
 | .undef | .int .. | .bool _ | .str _ | .list .. | .nilptr | .box .. | .nilIface | .nilFunc | .nilmap | .ptr .. | .bptr .. | .buf _ | .map _ => by simp [V.kill, au]
 | .agg cs | .tuple cs => by simp [V.kill, oS cs]
 | .iface t x => by simp [V.kill, eF x]
 | .func f a b => by simp [V.kill, oS a, oS b]
theorem oS : ∀ (x : List V), V.dg [] x = x
 | [] => by simp [V.dg]
 | c :: cs => by simp [V.dg, eF c, oS cs]
end
theorem Fo (o : O) : o.kill [] = o := by cases o <;> simp [O.kill, oS, eF]
theorem oQ (ks : List Nat) (sg : List O) : gw ks sg = sg.map (O.kill ks) := by
 cases ks with
 | nil => simp only [gw]; rw [show (O.kill []) = id from funext Fo]; simp
 | cons k ks => simp [gw, yz]
theorem si (a b : List O) : eZ a b = a ++ b := by cases b <;> simp [eZ]

theorem yT (ks : List Nat) : ∀ (tm : List (Nat × V)) (t : Nat), lk (oU ks tm) t = (lk tm t).kill ks
 | [], t => by simp [oU, lk, V.kill]
 | (k, x) :: r, t => by
   simp only [oU, lk]
   cases Nat.beq k t <;> simp [yT ks r t]
theorem jH (ks : List Nat) (tm : List (Nat × V)) (t : Nat) : lk (fN ks tm) t = (lk tm t).kill ks := by
 cases ks with
 | nil => simp [fN, eF]
 | cons k ks => simp [fN, yT]

theorem gQ {st : St} {g : a9} {x : V} {n : Nat} {v : Value} (h : VR st g x n v) (hu : x.dn = false) : aj st g x.cells n v.cells.toList := by
 cases x <;> first
  | (simp [V.dn] at hu; done)
  | (simp only [VR] at h
     first
      | (obtain ⟨vs, rfl, h⟩ := h; exact h)
      | (rename_i cs; obtain ⟨vs, rfl, h⟩ := h; simp only [V.cells, Value.cells]; refine bm ?_ cj; simp only [VR]; exact ⟨vs, rfl, h⟩))
  | skip
 all_goals (
  have h' := h
  simp only [VR] at h
  first
   | (subst h; simp only [V.cells, Value.cells]; exact bm h' cj)
   | (obtain ⟨rfl, _⟩ := h; simp only [V.cells, Value.cells]; exact bm h' cj)
   | (obtain ⟨_, _, rfl, _⟩ := h; simp only [V.cells, Value.cells]; exact bm h' cj)
   | (obtain ⟨_, _, _, rfl, _⟩ := h; simp only [V.cells, Value.cells]; exact bm h' cj)
   | (obtain ⟨_, _, _, rfl⟩ := h; simp only [V.cells, Value.cells]; exact bm h' cj)
   | skip)

end Go.VG
