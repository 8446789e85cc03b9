/-
  A part of the proof.
-/
import Derived.Test.YtllncocibkgjkaaGreatVgA
import Derived.WideKeyMaps
import Derived.WideKeyEntry
set_option linter.unusedSimpArgs false
set_option linter.unusedVariables false
namespace Go.VG
open Go

inductive Ex where
 | norm | exit (id : Nat) | ret | goto (l : Nat) | pan (v : Value)
def lX (f : AS → Prop) (K : Ex → AS → Prop) (e : Ex) (s : AS) : Prop := match e with
 | .norm => f s
 | e => K e s

def AS.put (s : AS) (d : Option Nat) (v : V) : AS := ⟨s.nt, match d with
 | some d => (d, v) :: s.tm
 | none => s.tm, s.sg, s.kl⟩

def AS.back (s : AS) (d : Option Nat) (x : V) (sg : List O) (ks : List Nat) : AS :=
 ⟨s.nt, match d with
  | some d => (d, x) :: gF ks s.tm
  | none => gF ks s.tm, sg, dA ks s.kl⟩

def kq (s : AS) (d : Option Nat) (x : V) (sg : List O) (ks : List Nat) (K : AS → Prop) : Prop := match s, d with
 | ⟨nt, tm, _, kl⟩, some d => iW x fun x => kD (gF ks tm) fun tm => i9 sg fun sg => gC (dA ks kl) fun kl => K ⟨nt, (d, x) :: tm, sg, kl⟩
 | ⟨nt, tm, _, kl⟩, none => kD (gF ks tm) fun tm => i9 sg fun sg => gC (dA ks kl) fun kl => K ⟨nt, tm, sg, kl⟩
@[simp] theorem Df (s : AS) (d : Option Nat) (x : V) (sg : List O) (ks : List Nat) (K : AS → Prop) : kq s d x sg ks K = K (s.back d x sg ks) := by
 obtain ⟨nt, tm, sg', kl⟩ := s
 cases d <;> simp [kq, AS.back, lF]

def cW (s : AS) : Option Nat → Bool
 | some d => Nat.blt d s.nt
 | none => true

def bO : List Oper → Nat → Option Nat
 | [], _ => none
 | o :: _, 0 => o.dst
 | _ :: os, j + 1 => bO os j

def jH (P : Program) (f : FuncId) : Prop := ∃ fn, P.funcs[f]? = some fn ∧ (fn.name == "runtime.NumGoroutine") = false ∧ fn.body.isNone = false

def aI (gl : Nat → Option (List V)) (st : St) : Prop := ∀ b cs, gl b = some cs → ∀ g : af, ∃ vs, av st g cs 0 vs ∧ ∀ j, j < vs.length → st b j = vs[j]?

structure iw (E : Env) (st : St) (g : af) (n : Nat) (st' : St) (g' : af) (n' : Nat) (ks : List Nat) : Prop where
 mono : ∀ b o v, st b o = some v → st' b o = some v
 aL : ∀ i, i < n → aH i ks = false → g' i = g i
 len : n ≤ n'

def xK (C : Ctx) (f : FuncId) (args : List V) (sg : List O) (K : V → List O → List Nat → Prop) : Prop :=
 jH C.P f ∧ ∀ (E : Env) (st : St) (g : af) (w : World) (vs : List Value), aG E st g sg w → aI C.gl st → av st g args sg.length vs →
  Calls C.P f vs.toArray w fun e w' => ∃ v x sg' ks st' g', e = .returned v ∧ aG E st' g' sg' w' ∧ VR st' g' x sg'.length v ∧ iw E st g sg.length st' g' sg'.length ks ∧ K x sg' ks

def yieldOf (C : Ctx) (s : AS) (c : Call) : Option (Nat × List V) :=
 match c.callee with
 | .value x => match s.ev C x with
   | .func (.yield l) [] [] => some (l, s.bk C c.args.toList)
   | _ => none
 | _ => none
def s9    (C : Ctx) (s : AS) (x : Operand) (d : Option Nat) (K : Ef → AS → Prop) : Prop := match s.ev C x with
 | .ptr k 0 => match aC s.sg k with
   | .miter (.map i) bs ck left _ => match aC s.sg i with
     | .map _ _ _ bs' ck' => (bs' = bs ∧ ck' = ck) ∧ (left = [] → dB s d ⟨.tuple [.bool false], [], [], [], [k, i]⟩ fun s' => K ⟨.tuple [.bool false], [], [], [], [k, i]⟩ s') ∧
      (∀ j, j ∈ left → dB s d ⟨.tuple [.bool true, .undef, .undef], [], [(k, .miter (.map i) bs ck (left.erase j) j)], [], [k, i]⟩ fun s' => K ⟨.tuple [.bool true, .undef, .undef], [], [(k, .miter (.map i) bs ck (left.erase j) j)], [], [k, i]⟩ s')
     | _ => False
   | _ => False
 | _ => False
def mU (s : AS) (e : Ef) (X : Value → AS → Prop) : Prop := gz e fun e => eH (ja e.v) fun u => dB s none ⟨.undef, e.ks, e.up, e.nw, e.rd⟩ (X u)
def za (C : Ctx) (ops : List Oper) (o : Oper) (s : AS) (R : Ex → AS → Prop) : Prop :=
 gT (cW s o.dst) (match o.guard with
 | none => go s
 | some (j, want) => match bO ops j with
   | none => False
   | some t => match lk s.tm t with
     | .bool b => bI b (cond want (run' (.bool true) t) (skip (.bool true) t)) (cond want (skip (.bool false) t) (run' (.bool false) t))
     | .tuple [] => skip (.tuple []) t
     | _ => False)
where
 go (s : AS) : Prop := match o.op with
   | .call c => match target C s c with
     | some (f, args) => match eh C s.sg f args with
       | some (pre, e) => pre ∧ gz e fun e => dB s o.dst e (R .norm)
       | none => match eh C.gJ s.sg f args, eh C.jb s.sg f args with
         | some (p, e1), some (q, e2) => (p ∨ q) ∧ (p → mU s e1 fun u => R (.pan u)) ∧ (q → gz e2 fun e => dB s o.dst e (R .norm))
         | _, _ => xK C f args s.sg fun x sg ks => kq s o.dst x sg ks (R .norm)
     | none => match yieldOf C s c with
       | some (l, args) => match C.yd l args s.sg s.kl with
         | some (pre, x, sg', ks) => pre ∧ kq s o.dst x sg' ks (R .norm)
         | none => False
       | none => bS C s o fun e => dB s o.dst e (R .norm)
   | .next x false => s9 C s x o.dst fun _ s' => R .norm s'
   | .panic x => eH (ja (s.ev C x)) fun u => R (.pan u) s
   | _ => bS C s o fun e => dB s o.dst e (R .norm)
 run' (b : V) (t : Nat) : Prop := dB s (some t) (pe b) go
 skip (b : V) (t : Nat) : Prop := dB s (some t) (pe b) fun s => dB s o.dst (pe (.tuple [])) (R .norm)

def rW (C : Ctx) (ops : List Oper) (o : Oper) (rest : List Oper) : Option (Nat × Nat) := match o.op, o.dst, rest with
  | .buildSlice t _ _, some d, o2 :: _ => match o2.op, o2.dst, (C.ti t).k with
    | .convert a b (.tmp d'), some d2, .slice e => match (C.ti e).k with
      | .int .u8 => cond (Nat.beq a t && Nat.beq b t && Nat.beq d d' && !C.lits d) (match o.guard, o2.guard with
        | none, none => some (d, d2)
        | some (j, x), some (j', x') => match bO ops j with
          | some u => cond (Nat.beq j j' && Bool.and (x == x') (!Nat.beq u d)) (some (d, d2)) none
          | none => none
        | _, _ => none) none
      | _ => none
    | _, _, _ => none
  | _, _, _ => none
def fT (s : AS) (p : Option (Nat × Nat)) (K : Bool → AS → Prop) : Prop := match p with
 | none => K false s
 | some (d, d2) => gT (Nat.blt d2 s.nt) (iW (lk s.tm d) fun x => K true (s.put (some d2) x))

def dP (C : Ctx) (ops : List Oper) : Bool → List Oper → AS → (Ex → AS → Prop) → Prop
 | _, [], s, K => K .norm s
 | true, _ :: rest, s, K => dP C ops false rest s K
 | false, o :: rest, s, K => za C ops o s (lX (fun s' => fT s' (rW C ops o rest) fun b s'' => dP C ops b rest s'' K) K)

def eU (C : Ctx) (ops : List Oper) (o : Oper) (s : AS) (K : Ef → AS → Prop) (U : AS → V → List O → List Nat → Prop) (X : Value → AS → Prop) : Prop :=
 gT (cW s o.dst) (match o.guard with
 | none => run
 | some (j, want) => match bO ops j with
   | none => False
   | some t => match lk s.tm t with
     | .bool b => bI b (cond want (run' (.bool true) t) (skip (.bool true) t)) (cond want (skip (.bool false) t) (run' (.bool false) t))
     | .tuple [] => skip (.tuple []) t
     | _ => False)
where
 go (s : AS) : Prop := match o.op with
   | .call c => match target C s c with
     | some (f, args) => match eh C s.sg f args with
       | some (pre, e) => pre ∧ gz e fun e => dB s o.dst e fun s' => K e s'
       | none => match eh C.gJ s.sg f args, eh C.jb s.sg f args with
         | some (p, e1), some (q, e2) => (p ∨ q) ∧ (p → mU s e1 X) ∧ (q → gz e2 fun e => dB s o.dst e fun s' => K e s')
         | _, _ => xK C f args s.sg (U s)
     | none => match yieldOf C s c with
       | some (l, args) => match C.yd l args s.sg s.kl with
         | some (pre, x, sg', ks) => pre ∧ U s x sg' ks
         | none => False
       | none => bS C s o fun e => dB s o.dst e fun s' => K e s'
   | .next x false => s9 C s x o.dst K
   | .panic x => eH (ja (s.ev C x)) fun u => X u s
   | _ => bS C s o fun e => dB s o.dst e fun s' => K e s'
 run : Prop := go s
 run' (b : V) (t : Nat) : Prop := dB s (some t) (pe b) fun s => go s
 skip (b : V) (t : Nat) : Prop := dB s (some t) (pe b) fun s => dB s o.dst (pe (.tuple [])) fun s' => K (pe (.tuple [])) s'

theorem EC (C : Ctx) (ops : List Oper) (o : Oper) (s : AS) (f : AS → Prop) (K : Ex → AS → Prop) : za C ops o s (lX f K) = eU C ops o s (fun _ s' => f s') (fun s x sg ks => kq s o.dst x sg ks f) (fun u s' => K (.pan u) s') := rfl

def kM : Option Operand → List Operand
 | some x => [x]
 | none => []
def qj : List (Nat × Operand) → List Operand
 | [] => []
 | (_, x) :: r => x :: qj r
def gS : Op → List Operand
 | .move x | .assign x | .box _ x | .load _ x | .nilCheck x | .unOp _ _ x | .convert _ _ x | .makeInterface _ x | .fieldAddr _ x _ | .field _ x _ | .range _ x | .next x _ | .typeAssert x _ _ _ | .extract x _ => [x]
 | .pick c a b => [c, a, b]
 | .makeMap _ r => kM r
 | .lookup _ a b _ | .mapEntry _ a b => [a, b]
 | .mapUpdate _ a b c | .entryStore _ a b c => [a, b, c]
 | .entry x => [x]
 | .build _ ps | .buildSlice _ _ ps => qj ps.toList
 | .store _ a v | .binOp _ _ a v _ | .makeSlice _ a v | .indexAddr _ a v | .index _ a v => [a, v]
 | .makeFunc _ a b => a.toList ++ b.toList
 | .slice _ x lo hi mx => x :: (kM lo ++ (kM hi ++ kM mx))
 | .call c => match c.callee with
   | .value f => f :: c.args.toList
   | .invoke r _ => r :: c.args.toList
   | .builtin _ => c.args.toList
 | _ => []
def tmpsOf : List Operand → List Nat
 | [] => []
 | .tmp t :: r => t :: tmpsOf r
 | _ :: r => tmpsOf r
def nV (ops : List Oper) : Option (Nat × Bool) → List Nat
 | none => []
 | some (j, _) => match bO ops j with
   | some t => [t]
   | none => []
def looks (ops : List Oper) (o : Oper) : List Nat := tmpsOf (gS o.op) ++ nV ops o.guard

mutual
def V.free (ks : List Nat) : V → Bool
 | .ptr j _ | .bptr j _ _ | .buf j | .map j => !aH j ks
 | .agg cs | .tuple cs => V.jR ks cs
 | .iface _ x => V.free ks x
 | .func _ fs cs => V.jR ks fs && V.jR ks cs
 | _ => true
def V.jR (ks : List Nat) : List V → Bool
 | [] => true
 | c :: cs => V.free ks c && V.jR ks cs
end
mutual
def V.kR : V → Bool
 | .undef => false
 | .agg cs | .tuple cs => V.kg cs
 | .iface _ x => V.kR x
 | .func _ fs cs => V.kg fs && V.kg cs
 | _ => true
def V.kg : List V → Bool
 | [] => true
 | c :: cs => V.kR c && V.kg cs
end
def lI (ks : List Nat) : List O → Bool
 | [] => true
 | .cells cs :: os => V.jR ks cs && lI ks os
 | .miter m _ _ _ _ :: os => V.free ks m && lI ks os
 | _ :: os => lI ks os
def m6 : List O → Bool
 | [] => true
 | .cells cs :: os => V.kg cs && m6 os
 | .miter m _ _ _ _ :: os => V.kR m && m6 os
 | .dead :: _ => false
 | _ :: os => m6 os
def iZ (sg : List O) : List Nat → List O
 | [] => []
 | i :: is => aC sg i :: iZ sg is

structure Rc where
 d : Option Nat
 us : List Nat
 anc : List Nat
 e : Ef
 n : Nat
 ov : List V
 oo : List O
 lu : Nat × List Nat

def quiet (e : Ef) : Bool := match e with
 | ⟨_, [], [], [], _⟩ => true
 | _ => false
def pt (d : Option Nat) (us : List Nat) : Bool := match d with
 | some d => !aH d us
 | none => true
def yM : Option Nat → Option Nat → Bool
 | some a, some b => !Nat.beq a b
 | _, _ => true
def pc : List (Nat × O) → List Nat → Bool
 | [], _ => true
 | (i, _) :: r, rd => !aH i rd && pc r rd
def pb : List Nat → Nat → Bool
 | [], _ => true
 | i :: is, n => Nat.blt i n && pb is n
def jZ (o : Oper) : Nat × List Nat := match o.guard, o.op with
 | none, .lookup t (.tmp m) (.tmp x) false => (1, [t, m, x])
 | none, .mapEntry t (.tmp m) (.tmp x) => (2, [t, m, x])
 | _, _ => (0, [])
def rn : List Nat → List Nat → Bool
 | [], [] => true
 | a :: r, b :: q => Nat.beq a b && rn r q
 | _, _ => false
def qi (j i : Rc) : Bool := Nat.beq j.lu.1 1 && (Nat.beq i.lu.1 2 && rn j.lu.2 i.lu.2)
def indep (j i : Rc) : Bool :=
 pt j.d i.us && pt i.d j.us && yM i.d j.d && (qi j i ||
 match quiet j.e, quiet i.e with
  | true, true => true
  | true, false => V.jR i.e.ks j.ov && lI i.e.ks j.oo && V.free i.e.ks j.e.v && pc i.e.up j.e.rd && pb j.e.rd i.n
  | false, true => V.kg i.ov && m6 i.oo && V.free j.e.ks i.e.v && pc j.e.up i.e.rd && pb i.e.rd j.n
  | false, false => false)
def mJ (i : Rc) : List Rc → Nat → Bool
 | [], _ => true
 | j :: js, k => (aH k i.anc || indep j i) && mJ i js (k + 1)

def dD : Ground → Bool
 | .textOnly _ | .gcOnly _ => false
 | _ => true
def l8 : List Rc → Nat → List Nat
 | [], _ => []
 | r :: _, 0 => r.anc
 | _ :: rs, j + 1 => l8 rs j
def nj (aT : List Rc) : List Edge → List Nat → List Nat
 | [], acc => acc
 | ⟨on, gr⟩ :: es, acc => cond (dD gr) (mF (dA (on :: l8 aT on) acc) fun acc => nj aT es acc) (nj aT es acc)
def ku (i : Nat) : List Edge → Bool
 | [] => true
 | ⟨on, gr⟩ :: es => (Nat.blt on i || !dD gr) && ku i es

def stepT (C : Ctx) (ops : List Oper) (s : AS) (o : Oper) : Tr Ef := match o.guard with
 | none => bS C s o
 | some (j, want) => match bO ops j with
   | none => fail
   | some t => match lk s.tm t with
     | .bool b => cond want (jn b (bS C s o) (ret (pe (.tuple [])))) (jn b (ret (pe (.tuple []))) (bS C s o))
     | .tuple [] => ret (pe (.tuple []))
     | _ => fail

def gL (C : Ctx) (ops : List Oper) (aT : List Rc) (s : AS) (o : Oper) (e : Ef) : Rc :=
 ⟨o.dst, looks ops o, nj aT o.after.toList [], e, s.sg.length, s.bk C (gS o.op), iZ s.sg e.rd, jZ o⟩
def ry (r : Rc) (K : Rc → Prop) : Prop := match r with
 | ⟨d, us, anc, e, n, ov, oo, lu⟩ => gC us fun us => gC anc fun anc => gz e fun e => c7 ov fun ov => i9 oo fun oo => K ⟨d, us, anc, e, n, ov, oo, lu⟩
@[simp] theorem uD (r : Rc) (K : Rc → Prop) : ry r K = K r := by cases r; simp [ry, iX]

def nA (C : Ctx) (ops : List Oper) : List Oper → Nat → List Rc → AS → (AS → Prop) → Prop
 | [], _, _, s, K => K s
 | o :: rest, i, aT, s, K => gT (cW s o.dst && ku i o.after.toList) (stepT C ops s o fun e =>
  gz e fun e => ry (gL C ops aT s o e) fun r => gT (mJ r aT 0) (gC (aT ++ [r]) fun aT => dB s o.dst e fun s' => nA C ops rest (i + 1) aT s' K))

def pX (s : AS) (t : Nat) (b : Bool) (k : AS → Prop) : Prop := match s with
 | ⟨nt, tm, sg, kl⟩ => k ⟨nt, (t, .bool b) :: tm, sg, kl⟩
def tp    (C : Ctx) (ops : List Oper) (s : AS) (o : Oper) (K : Ef → AS → Prop) : Prop := match o.guard with
 | none => bS C s o fun e => K e s
 | some (j, want) => match bO ops j with
   | none => False
   | some t => match lk s.tm t with
     | .bool b => cond want (bI b (pX s t true fun s => bS C s o fun e => K e s) (pX s t false fun s => K (pe (.tuple [])) s))
      (bI b (pX s t true fun s => K (pe (.tuple [])) s) (pX s t false fun s => bS C s o fun e => K e s))
     | .tuple [] => K (pe (.tuple [])) s
     | _ => False
def jN (C : Ctx) (ops : List Oper) : List Oper → Nat → List Rc → AS → (AS → Prop) → Prop
 | [], _, _, s, K => K s
 | o :: rest, i, aT, s, K => gT (cW s o.dst && ku i o.after.toList) (tp C ops s o fun e s =>
  gz e fun e => ry (gL C ops aT s o e) fun r => gT (mJ r aT 0) (gC (aT ++ [r]) fun aT => dB s o.dst e fun s' => jN C ops rest (i + 1) aT s' K))

def ig : List Edge → List Nat
 | [] => []
 | ⟨on, gr⟩ :: es => cond (dD gr) (on :: ig es) (ig es)
def mm (ops : List Oper) : Nat → List Nat → List Nat
 | 0, cl => cl
 | k + 1, cl => mm ops k (cond (aH k cl) (match ops[k]? with | some o => ig o.after.toList ++ cl | none => cl) cl)
def p9 (l : List Nat) : Nat → Bool
 | 0 => true
 | k + 1 => aH k l && p9 l k
def Ctx.both (C : Ctx) : Ctx := { C with Γ := fun f a s => match C.Γ f a s with
 | some r => some r
 | none => C.jb.Γ f a s }
def uY (C : Ctx) (o : Oper) (c : Call) (K : Ex → AS → Prop) (s : AS) : Prop := match target C s c with
 | some (f, args) => match eh C.gJ s.sg f args, eh C.jb s.sg f args with
   | some (p, e1), some (q, e2) => gT (cW s o.dst) ((p ∨ q) ∧ (p → mU s e1 fun u => K (.pan u)) ∧ (q → gz e2 fun e => dB s o.dst e (K .norm)))
   | _, _ => False
 | none => False
def vw (C : Ctx) (f : FuncId) (d : Tmp) (s : AS) (K : Ex → AS → Prop) (s' : AS) : Prop := match eh C.gJ s.sg f [lk s'.tm d] with
 | some (p, e1) => p ∧ mU ⟨s.nt, [], s.sg, s.kl⟩ e1 fun u => K (.pan u)
 | none => False
def ir : List Oper → Nat → Oper → List Oper
 | [], _, _ => []
 | _ :: os, 0, o => o :: os
 | p :: os, i + 1, o => p :: ir os i o
def qOp : Op → Bool
 | .move _ | .load _ _ | .fieldAddr _ _ _ | .field _ _ _ | .nilCheck _ => true
 | _ => false
def oE (i : Nat) : List Oper → Nat → Bool
 | [], _ => true
 | o :: os, k => (Nat.beq k i || qOp o.op) && oE i os (k + 1)
def nu (i d : Nat) : List Oper → Nat → Bool
 | [], _ => true
 | o :: os, k => (Nat.beq k i || (match o.dst with | some d' => !Nat.beq d' d | none => true)) && nu i d os (k + 1)
def oR (ops : List Oper) (i : Nat) : List Oper → Nat → Bool
 | [], _ => true
 | o :: os, n => aH i (mm ops n (ig o.after.toList)) && oR ops i os (n + 1)
inductive oZ (C : Ctx) (ops : List Oper) (s : AS) (K : Ex → AS → Prop) : Prop where
 | last (L : List Oper) (o : Oper) (c : Call) (hops : ops = L ++ [o]) (hc : o.op = .call c) (hg : o.guard = none) (he : ku L.length o.after.toList = true) (hb : p9 (mm ops L.length (ig o.after.toList)) L.length = true) (h : jN C.both L L 0 [] s (uY C o c K))
 | pan (L T : List Oper) (i : Nat) (o : Oper) (x : Operand) (d : Tmp) (f : FuncId) (c : Call) (hops : ops = L ++ T) (hi : L[i]? = some o) (hc : o.op = .call c) (hcv : c.callee = .value (.func f)) (hca : c.args = #[x]) (hg : o.guard = none)
  (hd : o.dst = some d) (hq : oE i L 0 = true) (hu : nu i d L 0 = true) (ht : oR ops i T L.length = true) (h : jN C.both (ir L i { o with op := .move x }) (ir L i { o with op := .move x }) 0 [] s (vw C f d s K))

def xw (s : AS) (n : Nat) : List (Nat × V) → Prop
 | [] => True
 | (t, x) :: r => (lk s.tm t = x ∧ x.eF n = true) ∧ xw s n r

def tq : List Nat → List Nat → Bool
 | [], _ => true
 | k :: ks, l => aH k l && tq ks l
structure Sub (n : Nat) (s t : AS) : Prop where
 nt : s.nt = t.nt
 tm : xw s t.sg.length t.tm
 sg : ey s.sg t.sg t.sg.length
 kl : tq s.kl t.kl = true
 len : Nat.ble n t.sg.length = true

mutual
def V.wf : V → Prop
 | .int k n => k.min ≤ n ∧ n ≤ k.max
 | .str s => s.length ≤ maxLen
 | .list _ _ l => l.length ≤ maxLen ∧ V.eK l
 | .agg cs | .tuple cs | .box cs _ => V.eK cs
 | .iface _ x => V.wf x
 | _ => True
def V.eK : List V → Prop
 | [] => True
 | c :: cs => V.wf c ∧ V.eK cs
end
def O.wf : O → Prop
 | .cells cs => V.eK cs
 | .buf _ _ l => l.length ≤ maxLen ∧ V.eK l
 | .siter s _ => s.length ≤ maxLen
 | .map _ _ es bs _ => es.length = bs.length
 | _ => True
def kX : List (Nat × V) → List Nat → Prop
 | [], _ => True
 | (t, x) :: r, seen => (match aH t seen with
   | true => True
   | false => x.wf) ∧ kX r (t :: seen)
def fk : List O → Prop
 | [] => True
 | o :: os => o.wf ∧ fk os

def mP (s : AS) (c : Operand) (b : Bool) (K : AS → Prop) : Prop := match c, s with
 | .tmp t, ⟨nt, tm, sg, kl⟩ => K ⟨nt, (t, .bool b) :: tm, sg, kl⟩
 | _, s => K s

def fP (i j k : Nat) : Nat := cond (Nat.beq k i) j (cond (Nat.beq k j) i k)
def oF (f : Nat → Option Nat) : List (Nat × V) → List (Nat × V)
 | [] => []
 | (t, x) :: r => (t, x.bg f) :: oF f r
def swapAt (sg : List O) (i j : Nat) : List O := fg (fg sg i (aC sg j)) j (aC sg i)
def jC : List V → Nat → V → List V
 | [], _, _ => []
 | _ :: xs, 0, y => y :: xs
 | x :: xs, n + 1, y => x :: jC xs n y
mutual
def V.put (i : Nat) (y : V) : V → V
 | .buf j => cond (Nat.beq j i) y (.buf j)
 | .agg cs => .agg (V.kP i y cs)
 | .tuple cs => .tuple (V.kP i y cs)
 | .iface t x => .iface t (V.put i y x)
 | .func f a b => .func f (V.kP i y a) (V.kP i y b)
 | .undef => .undef | .int k n => .int k n | .bool b => .bool b | .str s => .str s | .list c z l => .list c z l
 | .nilptr => .nilptr | .box cs o => .box cs o | .nilIface => .nilIface | .nilFunc => .nilFunc | .nilmap => .nilmap
 | .ptr j o => .ptr j o | .bptr j a o => .bptr j a o | .map j => .map j
def V.kP (i : Nat) (y : V) : List V → List V
 | [] => []
 | c :: cs => V.put i y c :: V.kP i y cs
end
def O.put (i : Nat) (y : V) : O → O
 | .cells cs => .cells (V.kP i y cs)
 | .dead => .dead | .buf a b l => .buf a b l | .siter s p => .siter s p | .map a sh es bs ck => .map a sh es bs ck
 | .miter m bs ck l x => .miter (V.put i y m) bs ck l x
def jB (i : Nat) (y : V) : List O → List O
 | [] => []
 | o :: os => o.put i y :: jB i y os
def oD (i : Nat) (y : V) : List (Nat × V) → List (Nat × V)
 | [] => []
 | (t, x) :: r => (t, V.put i y x) :: oD i y r
def AS.kN (s : AS) : e9 → AS
 | .tm t sz => match lk s.tm t, sz with
   | .list true _ [], sz + 1 => ⟨s.nt, (t, .buf s.sg.length) :: s.tm, s.sg ++ [.buf (sz + 1) 0 []], s.kl⟩
   | _, _ => s
 | .cell i off sz => match aC s.sg i, sz with
   | .cells cs, sz + 1 => match iY cs off with
     | some (.list true _ []) => ⟨s.nt, s.tm, fg s.sg i (.cells (jC cs off (.buf s.sg.length))) ++ [.buf (sz + 1) 0 []], s.kl⟩
     | _ => s
   | _, _ => s
 | .swap i j => match Nat.blt i s.sg.length && Nat.blt j s.sg.length with
   | true => ⟨s.nt, oF (fun k => some (fP i j k)) s.tm, ic (fun k => some (fP i j k)) (swapAt s.sg i j), i :: j :: s.kl⟩
   | false => s
 | .nw => ⟨s.nt, s.tm, s.sg ++ [.buf 1 0 []], s.kl⟩
 | .dQ i => match aC s.sg i with
   | .buf sz _ l => ⟨s.nt, oD i (.list false sz l) s.tm, fg (jB i (.list false sz l) s.sg) i .dead, s.kl⟩
   | _ => s
def AS.bT (s : AS) : List e9 → AS
 | [] => s
 | p :: ps => (s.kN p).bT ps

def uC (s : AS) (K : AS → Prop) : Prop := match s with
 | ⟨nt, tm, sg, kl⟩ => kD tm fun tm => i9 sg fun sg => gC kl fun kl => K ⟨nt, tm, sg, kl⟩
@[simp] theorem LZ (s : AS) (K : AS → Prop) : uC s K = K s := by cases s; simp [uC]
def si (s : AS) (ps : List e9) (K : AS → Prop) : Prop := match ps with
 | [] => K s
 | p :: ps => uC (s.bT (p :: ps)) K
theorem vA (s : AS) (ps : List e9) (K : AS → Prop) : si s ps K = K (s.bT ps) := by cases ps <;> simp [si, AS.bT]

def pf (id : Nat) (K : Ex → AS → Prop) (e : Ex) (s : AS) : Prop := match e with
 | .exit j => match Nat.beq j id with
   | true => K .norm s
   | false => K (.exit j) s
 | e => K e s
inductive bn (n : Nat) (s : AS) (R : AS → (Ex → AS → Prop) → Prop) (K : Ex → AS → Prop) : Prop where
 | mk (X : Type) (inv : X → Prop) (I : X → AS) (μ : X → Nat) (ps : List e9) (x0 : X) (h0 : inv x0) (hs : Sub n (s.bT ps) (I x0))
  (h : ∀ x, inv x → kX (I x).tm [] → fk (I x).sg → R (I x) (lX (fun s' => ∃ (qs : List e9) (x' : X), inv x' ∧ Sub n (s'.bT qs) (I x') ∧ μ x' < μ x) K))

def rD (l : Nat) (f : AS → Prop) (K : Ex → AS → Prop) (e : Ex) (s : AS) : Prop := match e with
 | .goto j => match Nat.beq j l with
   | true => f s
   | false => False
 | e => K e s
def lS (K : Ex → AS → Prop) (e : Ex) (s : AS) : Prop := match e with
 | .goto _ => False
 | e => K e s
inductive mc (n l : Nat) (s : AS) (R : AS → (Ex → AS → Prop) → Prop) (K : Ex → AS → Prop) : Prop where
 | mk (X : Type) (inv : X → Prop) (I : X → AS) (μ : X → Nat) (ps : List e9) (x0 : X) (h0 : inv x0) (hs : Sub n (s.bT ps) (I x0))
  (h : ∀ x, inv x → kX (I x).tm [] → fk (I x).sg → R (I x) (rD l (fun s' => ∃ (qs : List e9) (x' : X), inv x' ∧ Sub n (s'.bT qs) (I x') ∧ μ x' < μ x) K))

structure jh (n : Nat) (st0 : St) (g0 : af) (st : St) (g : af) (s : AS) : Prop where
 mono : ∀ b o v, st0 b o = some v → st b o = some v
 aL : ∀ i, i < n → aH i s.kl = false → g i = g0 i
 len : n ≤ s.sg.length
structure eB (E0 E : Env) : Prop where
 G : ∀ b, E.G b → E0.G b
 w0 : ∀ b, ¬ E0.G b → E.w0.heap[b]? = E0.w0.heap[b]?
 os : E.w0.os = E0.w0.os
 tape : E.w0.tape = E0.w0.tape
 output : E.w0.output = E0.w0.output
 size : E0.w0.heap.size ≤ E.w0.heap.size
 st0 : E.st0 = E0.st0
 gnew : ∀ b, E0.w0.heap.size ≤ b → E0.G b
 ds : ∃ Ds : List Nat, E.ds = Ds.map (fun D => { target := .collected D, args := #[] }) ++ E0.ds ∧ Ds.Nodup ∧ ∀ D ∈ Ds, E0.G D ∧ ¬ E.G D ∧ E.w0.heap[D]? = some (.deferred (some []))
abbrev YT : Type := List V → List O → List Nat → Option (Prop × V × List O × List Nat)
def tN (C : Ctx) (E : Env) (n : Nat) (st0 : St) (g0 : af) (l : Nat) (Y : YT) : Prop := ∀ args (s : AS) pre x sg' ks, Y args s.sg s.kl = some (pre, x, sg', ks) → pre → ∀ (st : St) (g : af) (w : World) (vs : List Value), aG E st g s.sg w → aI C.gl st → av st g args s.sg.length vs → jh n st0 g0 st g s →
 YieldAt Fence.wide 0 C.P l vs.toArray w fun en w' => ∃ v st' g', en = .returned v ∧ aG E st' g' sg' w' ∧ VR st' g' x sg'.length v ∧ iw E st g s.sg.length st' g' sg'.length ks
def SeqOK (C : Ctx) (gf : FuncId) (lb : List V) (σ : List O) (Y : YT) (r : List O) (ks : List Nat) : Prop :=
 jH C.P gf ∧ ∀ (E : Env) (st : St) (g : af) (w : World) (l : Nat) (vs : List Value), aG E st g σ w → aI C.gl st → E.ds = [] → av st g lb σ.length vs →
  (∀ E', eB E E' → tN C E' σ.length st g l Y) →
  Calls C.P gf (.func (.yield l) #[] #[] :: vs).toArray w fun e w' => ∃ v st' g', e = .returned v ∧ aG E st' g' r w' ∧ (∀ b o v, st b o = some v → st' b o = some v) ∧ σ.length ≤ r.length ∧ ∀ i, i < σ.length → aH i ks = false → g' i = g i
def oS (tm : List (Nat × V)) (kl : List Nat) : List (Nat × V) → Prop
 | [] => True
 | (t, x) :: r => (lk tm t = x ∧ x.kill kl = x) ∧ oS tm kl r
def rP (n : Nat) (ks : List Nat) : List Nat → Bool
 | [] => true
 | k :: kl => (aH k ks || Nat.ble n k) && rP n ks kl
def xP (n : Nat) (sg' : List O) (ks : List Nat) (s : AS) : Prop := ∃ ps : List e9, ey (s.bT ps).sg sg' sg'.length ∧ rP n ks (s.bT ps).kl = true ∧ n ≤ sg'.length
def gb : Code → Bool
 | .skip | .label _ | .exit _ | .ret | .goto _ => true
 | .region _ _ d => !d
 | .seq a b | .cond _ a b => gb a && gb b
 | .block _ a => gb a
 | _ => false
inductive tH (C : Ctx) (s : AS) (g : Operand) (ps : Array Tmp) (A B : Nat → AS → (Ex → AS → Prop) → Prop) (K : Ex → AS → Prop) : Prop where
 | mk (ps0 : List e9) (gf : FuncId) (lb : List V) (Y : YT) (p : Tmp) (tmI tmE : List (Nat × V)) (r : List O) (ks : List Nat)
     (hyd : C.yd = fun _ _ _ _ => none) (hps : ps = #[p]) (hp : Nat.blt p s.nt = true) (hg : (s.bT ps0).ev C g = .func (.func gf) [] lb) (hseq : SeqOK C gf lb (s.bT ps0).sg Y r ks)
     (hround : ∀ args (s' : AS) pre y sg' ks', Y args s'.sg s'.kl = some (pre, y, sg', ks') → pre → V.eK args → fk s'.sg → ∃ x, args = [x] ∧ y = .bool true ∧ oS (s.bT ps0).tm s'.kl tmI ∧
      A s'.sg.length ⟨s.nt, (p, x) :: tmI, s'.sg, []⟩ (fun ex s1 => ex = .norm ∧ B s'.sg.length s1 (fun ex s2 => ex = .norm ∧ xP s'.sg.length sg' ks' s2)))
     (hend : oS (s.bT ps0).tm ks tmE ∧ K .norm ⟨s.nt, tmE, r, dA ks (s.bT ps0).kl⟩)

def vc (C : Ctx) (n : Nat) : Code → AS → (Ex → AS → Prop) → Prop
 | .skip, s, K => K .norm s
 | .label _, s, K => K .norm s
 | .region id ops false, s, K => si s (C.hint id) fun s => dP C ops.toList false ops.toList s K
 | .region id ops true, s, K => si s (C.hint id) fun s => cond (C.pdr id) (oZ C ops.toList s K) (jN C ops.toList ops.toList 0 [] s (K .norm))
 | .seq a b, s, K => vc C n a s (lX (fun s' => vc C n b s' K) K)
 | .cond c x y, s, K => match s.ev C c with
   | .bool b => bI b (mP s c true fun s => vc C n x s K) (mP s c false fun s => vc C n y s K)
   | _ => False
 | .block id c, s, K => vc C n c s (pf id K)
 | .loop c, s, K => bn n s (vc C n c) K
 | .scope (.seq a (.seq (.label l) b)), s, K => match findLabel a l with
   | none => vc C n a s (lX (fun s' => mc n l s' (vc C n b) K) (lS K))
   | some _ => False
 | .scope c, s, K => vc C n c s (lS K)
 | .exit id, s, K => K (.exit id) s
 | .goto l, s, K => K (.goto l) s
 | .ret, s, K => K .ret s
 | .rangeFunc g ps assign body, s, K => gT (gb assign && gb body) (tH C s g ps (fun m => vc C m assign) (fun m => vc C m body) K)
 | _, _, _ => False

def fV : List V → Nat → List (Nat × V)
 | [], _ => []
 | x :: xs, i => (i, x) :: fV xs (i + 1)
def vz (agg : Bool) (size : Nat) (cs : List V) (off : Nat) : Option V := match agg with
 | true => match gd (iC cs off) size with
   | some r => some (.agg r)
   | none => none
 | false => iY cs off
def lV (  ti : TypeId → TI) (s : AS) : List ResultVar → Option (List V)
 | [] => some []
 | .tmp t :: r => match lV ti s r with
   | some xs => some (lk s.tm t :: xs)
   | none => none
 | .cell b t :: r => match lk s.tm b with
   | .ptr i off => match aC s.sg i with
     | .cells cs => match (ti t).k with
       | .other => none
       | k => match vz k.isAgg (ti t).size cs off, lV ti s r with
         | some x, some xs => some (x :: xs)
         | _, _ => none
     | _ => none
   | _ => none
def n6 (ti : TypeId → TI) (s : AS) (rs : List ResultVar) : Option V := match lV ti s rs with
 | some [x] => some x
 | some xs => some (.tuple xs)
 | none => none

def jW (sg : List O) (aL : Bool) : List Nat → Bool
 | [] => true
 | k :: ks => (match aC sg k with
   | .buf _ _ _ => !aL
   | _ => Nat.ble sg.length k) && jW sg aL ks

def tE (ti : TypeId → TI) (rs : List ResultVar) (sg : List O) (x : V) (r : Option (List O)) (s : AS) : Prop := eH (n6 ti s rs) fun y => match r with
 | none => y = x ∧ x.eF sg.length = true ∧ ey s.sg sg sg.length ∧ jW sg true s.kl = true
 | some sg' => y = x ∧ x.eF sg'.length = true ∧ ey s.sg sg' sg'.length ∧ jW sg (dI sg') s.kl = true ∧ Nat.ble sg.length sg'.length = true
inductive a8 (ti : TypeId → TI) (rs : List ResultVar) (sg : List O) (x : V) (r : Option (List O)) (s : AS) : Prop where
 | mk (ps : List e9) (h : tE ti rs sg x r (s.bT ps))
def Ends (ti : TypeId → TI) (rs : List ResultVar) (sg : List O) (x : V) (r : Option (List O)) (e : Ex) (s : AS) : Prop := match e with
 | .exit _ => False
 | .goto _ => False
 | .pan _ => False
 | _ => a8 ti rs sg x r s
def PanQ (sg : List O) (r : Option (List O)) (s : AS) : Prop := match r with
 | none => ey s.sg sg sg.length ∧ jW sg true s.kl = true
 | some sg' => ey s.sg sg' sg'.length ∧ jW sg (dI sg') s.kl = true ∧ Nat.ble sg.length sg'.length = true
inductive cJ (sg : List O) (r : Option (List O)) (s : AS) : Prop where
 | mk (ps : List e9) (h : PanQ sg r (s.bT ps))
def xL (u : Value) (sg : List O) (r : Option (List O)) (e : Ex) (s : AS) : Prop := match e with
 | .pan v => v = u ∧ cJ sg r s
 | _ => False

end Go.VG
namespace Go.VG
open Go

def tF (P : Program) (t : TypeId) (sh : List Sc) : Prop := ∀ (st : St) (g : af) (n : Nat) (cs ds : List V) (r : Bool) (a b : Array Value) (w : World),
 c9 sh cs = true → c9 sh ds = true → eqs cs ds = some r → cs.length = P.cellsOf t → av st g cs n a.toList → av st g ds n b.toList → (Op.equal t (.agg a) (.agg b)).run P w = .ok r w ∧ P.eqGuardType P.depth t = false

def mj (P : Program) (k : TypeId) : Bool := match P.underlying k with
 | some (.struct _) | some (.array _ _) => true
 | _ => false
def p4 (P : Program) (k : TypeId) (sh : List Sc) : Prop := WideMaps.KeyLaw P k ∧ ∀ x, hZ (mj P k) sh x = true → jA x → ∃ l, keyOf P k (cI x) = some l
def TK.ze (P : Program) (t : TypeId) (sh : List Sc) : TK → Prop
 | .map k _ => p4 P k sh
 | _ => tF P t sh
def TK.ok (P : Program) (t : TypeId) : TK → Prop
 | .bool => P.underlying t = some .bool
 | .int k => P.underlying t = some (.int k)
 | .string => P.underlying t = some .string
 | .slice e => P.underlying t = some (.slice e)
 | .array n e => P.underlying t = some (.array n e)
 | .ptr e => P.underlying t = some (.pointer e)
 | .struct fs => ∃ fields, P.underlying t = some (.struct fields) ∧ fields.toList.map (fun f => (f.offset, f.type)) = fs ∧ (fields.toList.mapM (fun f => (P.info? f.type).map fun i => (f.offset, i.size))).isSome = true
 | .iface => ∃ ms, P.underlying t = some (.interface ms)
 | .func => ∃ a b c, P.underlying t = some (.func a b c)
 | .map k e => P.underlying t = some (.map k e)
 | .other => False

def aE (P : Program) (t : TypeId) (i : TI) : Prop := match i.k with
 | .other => True
 | k => k.ok P t ∧ (∃ info, P.info? t = some info ∧ info.size = i.size ∧ info.bytes = i.bytes ∧ ∃ z, info.zero = some z ∧ ∀ (st : St) (g : af) (n : Nat), VR st g i.zero n z) ∧
  (i.feq ≠ [] → i.k.ze P t i.feq)

theorem aE.of {P : Program} {t : TypeId} {i : TI} (h : aE P t i) (hk : i.k ≠ .other) : i.k.ok P t ∧ (∃ info, P.info? t = some info ∧ info.size = i.size ∧ info.bytes = i.bytes ∧ ∃ z, info.zero = some z ∧ ∀ (st : St) (g : af) (n : Nat), VR st g i.zero n z) ∧
     (i.feq ≠ [] → i.k.ze P t i.feq) := by
 unfold aE at h
 split at h
 . contradiction
 . exact h

section
variable {P : Program} {t : TypeId} {i : TI} (w : World)

theorem fN (h : aE P t i) (hk : i.k ≠ .other) : (sizeOf t).run P w = .ok i.size w := by
 obtain ⟨_, ⟨info, h1, h2, _⟩, _⟩ := h.of hk
 simp [sizeOf, typeInfo, h1, h2]
theorem tZ (h : aE P t i) (hk : i.k ≠ .other) : P.cellsOf t = i.size := by
 obtain ⟨_, ⟨info, h1, h2, _⟩, _⟩ := h.of hk
 simp [Program.cellsOf, h1, h2]
theorem vO (h : aE P t i) (hk : i.k ≠ .other) : ∃ z, (zeroValue t).run P w = .ok z w ∧ ∀ (st : St) (g : af) (n : Nat), VR st g i.zero n z := by
 obtain ⟨_, ⟨info, h1, h2, _, z, h4, h5⟩, _⟩ := h.of hk
 exact ⟨z, by simp [zeroValue, typeInfo, h1, h4], h5⟩
theorem sr (h : aE P t i) (hk : i.k ≠ .other) : (isAgg t).run P w = .ok i.k.isAgg w := by
 obtain ⟨h1, _, _⟩ := h.of hk
 cases hk' : i.k <;> rw [hk'] at h1 <;> simp only [TK.ok] at h1
 case struct fs => obtain ⟨f, h1, _⟩ := h1; simp [isAgg, run_underlying h1, TK.isAgg]
 case iface => obtain ⟨f, h1⟩ := h1; simp [isAgg, run_underlying h1, TK.isAgg]
 case func => obtain ⟨a, b, c, h1⟩ := h1; simp [isAgg, run_underlying h1, TK.isAgg]
 all_goals simp [isAgg, run_underlying h1, TK.isAgg]
end

theorem rB : ∀ (xs : List V) (n : Nat), iY xs n = xs[n]?
 | [], n => by cases n <;> simp [iY]
 | x :: xs, 0 => by simp [iY]
 | x :: xs, n + 1 => by simp [iY, rB xs n]
theorem rf : ∀ (xs : List V) (n : Nat), iC xs n = xs.drop n
 | xs, 0 => by simp [iC]
 | [], n + 1 => by simp [iC]
 | x :: xs, n + 1 => by simp [iC, rf xs n]
theorem xz : ∀ {xs : List V} {n : Nat} {r : List V}, gd xs n = some r → r = xs.take n ∧ n ≤ xs.length
 | xs, 0, r, h => by simp [gd] at h; simp [h]
 | [], n + 1, r, h => by simp [gd] at h
 | x :: xs, n + 1, r, h => by
   simp only [gd] at h
   split at h
   . rename_i r' hr
     obtain ⟨h1, h2⟩ := xz hr
     cases h
     subst h1
     exact ⟨by simp, by simpa using h2⟩
   . cases h
def over {α : Type} (xs : List α) (o : Nat) (ys : List α) : List α := xs.take o ++ ys ++ xs.drop (o + ys.length)
theorem qu : ∀ {xs : List V} {o : Nat} {ys r : List V}, gO xs o ys = some r → r = over xs o ys ∧ (ys = [] ∨ o + ys.length ≤ xs.length)
 | xs, o, [], r, h => by simp [gO] at h; simp [over, h]
 | [], _, _ :: _, r, h => by simp [gO] at h
 | x :: xs, 0, y :: ys, r, h => by
   simp only [gO] at h
   split at h
   . rename_i r' hr
     obtain ⟨h1, h2⟩ := qu hr
     cases h
     subst h1
     refine ⟨by simp [over], .inr ?_⟩
     rcases h2 with rfl | h2
     . simp
     . simpa using h2
   . cases h
 | x :: xs, n + 1, y :: ys, r, h => by
   simp only [gO] at h
   split at h
   . rename_i r' hr
     obtain ⟨h1, h2⟩ := qu hr
     cases h
     subst h1
     refine ⟨?_, .inr ?_⟩
     . simp only [over, List.take_succ_cons, List.cons_append]
       rw [show n + 1 + (y :: ys).length = (n + (y :: ys).length) + 1 by omega, List.drop_succ_cons]
     . rcases h2 with h2 | h2
       . cases h2
       . simp at h2 ⊢; omega
   . cases h

theorem k9 {α : Type} {xs : List α} {o : Nat} {ys : List α} (h : ys = [] ∨ o + ys.length ≤ xs.length) : (over xs o ys).length = xs.length := by
 rcases h with rfl | h
 . simp [over]
 . simp [over]; omega

theorem tM {st : St} {g : af} {n o : Nat} {cs ds : List V} {vs us : List Value} (h : av st g cs n vs) (k : av st g ds n us) : av st g (over cs o ds) n (over vs o us) := by
 unfold over
 rw [← dz k]
 exact ni (ni (qR h) k) (qQ h)

theorem dR : ∀ {sg : List O} {i : Nat} {o : O}, aC sg i = o → o ≠ .dead → sg[i]? = some o ∧ i < sg.length
 | [], i, o, h, hn => by simp [aC] at h; exact absurd h.symm hn
 | p :: ps, 0, o, h, hn => by simp [aC] at h; simp [h]
 | p :: ps, i + 1, o, h, hn => by
   simp only [aC] at h
   obtain ⟨h1, h2⟩ := dR h hn
   exact ⟨by simpa using h1, by simpa using h2⟩
theorem Ap (ks : List Nat) : ∀ sg : List O, rN ks sg = sg.map (O.kill ks)
 | [] => rfl
 | o :: os => by simp [rN, Ap ks os]
theorem gP : ∀ (sg : List O) (i : Nat) (o : O), fg sg i o = sg.set i o
 | [], i, o => by simp [fg]
 | p :: ps, 0, o => by simp [fg]
 | p :: ps, i + 1, o => by simp [fg, gP ps i o]
mutual
theorem fz : ∀ (x : V), x.kill [] = x
 | .undef | .int .. | .bool _ | .str _ | .list .. | .nilptr | .box .. | .nilIface | .nilFunc | .nilmap | .ptr .. | .bptr .. | .buf _ | .map _ => by simp [V.kill, aH]
 | .agg cs | .tuple cs => by simp [V.kill, pS cs]
 | .iface t x => by simp [V.kill, fz x]
 | .func f a b => by simp [V.kill, pS a, pS b]
theorem pS : ∀ (x : List V), V.dK [] x = x
 | [] => by simp [V.dK]
 | c :: cs => by simp [V.dK, fz c, pS cs]
end
theorem Ip (o : O) : o.kill [] = o := by cases o <;> simp [O.kill, pS, fz]
theorem pQ (ks : List Nat) (sg : List O) : ia ks sg = sg.map (O.kill ks) := by
 cases ks with
 | nil => simp only [ia]; rw [show (O.kill []) = id from funext Ip]; simp
 | cons k ks => simp [ia, Ap]
theorem tO (a b : List O) : fR a b = a ++ b := by cases b <;> simp [fR]

theorem AT (ks : List Nat) : ∀ (tm : List (Nat × V)) (t : Nat), lk (pU ks tm) t = (lk tm t).kill ks
 | [], t => by simp [pU, lk, V.kill]
 | (k, x) :: r, t => by
   simp only [pU, lk]
   cases Nat.beq k t <;> simp [AT ks r t]
theorem kK (ks : List Nat) (tm : List (Nat × V)) (t : Nat) : lk (gF ks tm) t = (lk tm t).kill ks := by
 cases ks with
 | nil => simp [gF, fz]
 | cons k ks => simp [gF, AT]

theorem iA {st : St} {g : af} {x : V} {n : Nat} {v : Value} (h : VR st g x n v) (hu : x.dS = false) : av st g x.cells n v.cells.toList := by
 cases x <;> first
  | (simp [V.dS] at hu; done)
  | (simp only [VR] at h
     first
      | (obtain ⟨vs, rfl, h⟩ := h; exact h)
      | (rename_i cs; obtain ⟨vs, rfl, h⟩ := h; simp only [V.cells, Value.cells]; refine bL ?_ cO; simp only [VR]; exact ⟨vs, rfl, h⟩))
  | skip
 all_goals (
  have h' := h
  simp only [VR] at h
  first
   | (subst h; simp only [V.cells, Value.cells]; exact bL h' cO)
   | (obtain ⟨rfl, _⟩ := h; simp only [V.cells, Value.cells]; exact bL h' cO)
   | (obtain ⟨_, _, rfl, _⟩ := h; simp only [V.cells, Value.cells]; exact bL h' cO)
   | (obtain ⟨_, _, _, rfl, _⟩ := h; simp only [V.cells, Value.cells]; exact bL h' cO)
   | (obtain ⟨_, _, _, rfl⟩ := h; simp only [V.cells, Value.cells]; exact bL h' cO)
   | skip)

end Go.VG
