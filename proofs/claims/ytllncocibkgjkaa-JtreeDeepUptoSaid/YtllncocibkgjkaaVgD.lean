/-
  A part of the proof.
-/
import Derived.Test.YtllncocibkgjkaaVgA
import Derived.WideKeyMaps
import Derived.WideKeyEntry
set_option linter.unusedSimpArgs false
set_option linter.unusedVariables false
namespace Go.VG
open Go

inductive Ex where
 | norm | exit (id : Nat) | ret | goto (l : Nat) | pan (v : Value)
def lF (f : AS → Prop) (K : Ex → AS → Prop) (e : Ex) (s : AS) : Prop := match e with
 | .norm => f s
 | e => K e s

def AS.put (s : AS) (d : Option Nat) (v : V) : AS := ⟨s.nt, match d with
 | some d => (d, v) :: s.tm
 | none => s.tm, s.sg, s.kl⟩

def AS.back (s : AS) (d : Option Nat) (x : V) (sg : List O) (ks : List Nat) : AS :=
 ⟨s.nt, match d with
  | some d => (d, x) :: gm ks s.tm
  | none => gm ks s.tm, sg, dx ks s.kl⟩

def jY (s : AS) (d : Option Nat) (x : V) (sg : List O) (ks : List Nat) (K : AS → Prop) : Prop := match s, d with
 | ⟨nt, tm, _, kl⟩, some d => iG x fun x => ke (gm ks tm) fun tm => gS sg fun sg => gj (dx ks kl) fun kl => K ⟨nt, (d, x) :: tm, sg, kl⟩
 | ⟨nt, tm, _, kl⟩, none => ke (gm ks tm) fun tm => gS sg fun sg => gj (dx ks kl) fun kl => K ⟨nt, tm, sg, kl⟩
@[simp] theorem Cw (s : AS) (d : Option Nat) (x : V) (sg : List O) (ks : List Nat) (K : AS → Prop) : jY s d x sg ks K = K (s.back d x sg ks) := by
 obtain ⟨nt, tm, sg', kl⟩ := s
 cases d <;> simp [jY, AS.back, l9]

def cT (s : AS) : Option Nat → Bool
 | some d => Nat.blt d s.nt
 | none => true

def bM : List Oper → Nat → Option Nat
 | [], _ => none
 | o :: _, 0 => o.dst
 | _ :: os, j + 1 => bM os j

def j0 (P : Program) (f : FuncId) : Prop := ∃ fn, P.funcs[f]? = some fn ∧ (fn.name == "runtime.NumGoroutine") = false ∧ fn.body.isNone = false

def aL (gl : Nat → Option (List V)) (st : St) : Prop := ∀ b cs, gl b = some cs → ∀ g : ah, ∃ vs, au st g cs 0 vs ∧ ∀ j, j < vs.length → st b j = vs[j]?

structure hP (E : Env) (st : St) (g : ah) (n : Nat) (st' : St) (g' : ah) (n' : Nat) (ks : List Nat) : Prop where
 mono : ∀ b o v, st b o = some v → st' b o = some v
 aO : ∀ i, i < n → aF i ks = false → g' i = g i
 len : n ≤ n'

def xc (C : Ctx) (f : FuncId) (args : List V) (sg : List O) (K : V → List O → List Nat → Prop) : Prop :=
 j0 C.P f ∧ ∀ (E : Env) (st : St) (g : ah) (w : World) (vs : List Value), aE E st g sg w → aL C.gl st → au st g args sg.length vs →
  Calls C.P f vs.toArray w fun e w' => ∃ v x sg' ks st' g', e = .returned v ∧ aE E st' g' sg' w' ∧ VR st' g' x sg'.length v ∧ hP E st g sg.length st' g' sg'.length ks ∧ K x sg' ks

def yieldOf (C : Ctx) (s : AS) (c : Call) : Option (Nat × List V) :=
 match c.callee with
 | .value x => match s.ev C x with
   | .func (.yield l) [] [] => some (l, s.bo C c.args.toList)
   | _ => none
 | _ => none
def rM    (C : Ctx) (s : AS) (x : Operand) (d : Option Nat) (K : Ef → AS → Prop) : Prop := match s.ev C x with
 | .ptr k 0 => match ax s.sg k with
   | .miter (.map i) bs ck left _ => match ax s.sg i with
     | .map _ _ _ bs' ck' => (bs' = bs ∧ ck' = ck) ∧ (left = [] → dy s d ⟨.tuple [.bool false], [], [], [], [k, i]⟩ fun s' => K ⟨.tuple [.bool false], [], [], [], [k, i]⟩ s') ∧
      (∀ j, j ∈ left → dy s d ⟨.tuple [.bool true, .undef, .undef], [], [(k, .miter (.map i) bs ck (left.erase j) j)], [], [k, i]⟩ fun s' => K ⟨.tuple [.bool true, .undef, .undef], [], [(k, .miter (.map i) bs ck (left.erase j) j)], [], [k, i]⟩ s')
     | _ => False
   | _ => False
 | _ => False
def mD (s : AS) (e : Ef) (X : Value → AS → Prop) : Prop := gd e fun e => fk (iO e.v) fun u => dy s none ⟨.undef, e.ks, e.up, e.nw, e.rd⟩ (X u)
def yC (C : Ctx) (ops : List Oper) (o : Oper) (s : AS) (R : Ex → AS → Prop) : Prop :=
 gI (cT s o.dst) (match o.guard with
 | none => go s
 | some (j, want) => match bM ops j with
   | none => False
   | some t => match lk s.tm t with
     | .bool b => bG b (cond want (run' (.bool true) t) (skip (.bool true) t)) (cond want (skip (.bool false) t) (run' (.bool false) t))
     | .tuple [] => skip (.tuple []) t
     | _ => False)
where
 go (s : AS) : Prop := match o.op with
   | .call c => match target C s c with
     | some (f, args) => match ec C s.sg f args with
       | some (pre, e) => pre ∧ gd e fun e => dy s o.dst e (R .norm)
       | none => match ec C.gu s.sg f args, ec C.iP s.sg f args with
         | some (p, e1), some (q, e2) => (p ∨ q) ∧ (p → mD s e1 fun u => R (.pan u)) ∧ (q → gd e2 fun e => dy s o.dst e (R .norm))
         | _, _ => xc C f args s.sg fun x sg ks => jY s o.dst x sg ks (R .norm)
     | none => match yieldOf C s c with
       | some (l, args) => match C.yd l args s.sg s.kl with
         | some (pre, x, sg', ks) => pre ∧ jY s o.dst x sg' ks (R .norm)
         | none => False
       | none => bP C s o fun e => dy s o.dst e (R .norm)
   | .next x false => rM C s x o.dst fun _ s' => R .norm s'
   | .panic x => fk (iO (s.ev C x)) fun u => R (.pan u) s
   | _ => bP C s o fun e => dy s o.dst e (R .norm)
 run' (b : V) (t : Nat) : Prop := dy s (some t) (pe b) go
 skip (b : V) (t : Nat) : Prop := dy s (some t) (pe b) fun s => dy s o.dst (pe (.tuple [])) (R .norm)

def rH (C : Ctx) (ops : List Oper) (o : Oper) (rest : List Oper) : Option (Nat × Nat) := match o.op, o.dst, rest with
  | .buildSlice t _ _, some d, o2 :: _ => match o2.op, o2.dst, (C.ti t).k with
    | .convert a b (.tmp d'), some d2, .slice e => match (C.ti e).k with
      | .int .u8 => cond (Nat.beq a t && Nat.beq b t && Nat.beq d d' && !C.lits d) (match o.guard, o2.guard with
        | none, none => some (d, d2)
        | some (j, x), some (j', x') => match bM ops j with
          | some u => cond (Nat.beq j j' && Bool.and (x == x') (!Nat.beq u d)) (some (d, d2)) none
          | none => none
        | _, _ => none) none
      | _ => none
    | _, _, _ => none
  | _, _, _ => none
def fO (s : AS) (p : Option (Nat × Nat)) (K : Bool → AS → Prop) : Prop := match p with
 | none => K false s
 | some (d, d2) => gI (Nat.blt d2 s.nt) (iG (lk s.tm d) fun x => K true (s.put (some d2) x))

def dN (C : Ctx) (ops : List Oper) : Bool → List Oper → AS → (Ex → AS → Prop) → Prop
 | _, [], s, K => K .norm s
 | true, _ :: rest, s, K => dN C ops false rest s K
 | false, o :: rest, s, K => yC C ops o s (lF (fun s' => fO s' (rH C ops o rest) fun b s'' => dN C ops b rest s'' K) K)

def eS (C : Ctx) (ops : List Oper) (o : Oper) (s : AS) (K : Ef → AS → Prop) (U : AS → V → List O → List Nat → Prop) (X : Value → AS → Prop) : Prop :=
 gI (cT s o.dst) (match o.guard with
 | none => run
 | some (j, want) => match bM ops j with
   | none => False
   | some t => match lk s.tm t with
     | .bool b => bG b (cond want (run' (.bool true) t) (skip (.bool true) t)) (cond want (skip (.bool false) t) (run' (.bool false) t))
     | .tuple [] => skip (.tuple []) t
     | _ => False)
where
 go (s : AS) : Prop := match o.op with
   | .call c => match target C s c with
     | some (f, args) => match ec C s.sg f args with
       | some (pre, e) => pre ∧ gd e fun e => dy s o.dst e fun s' => K e s'
       | none => match ec C.gu s.sg f args, ec C.iP s.sg f args with
         | some (p, e1), some (q, e2) => (p ∨ q) ∧ (p → mD s e1 X) ∧ (q → gd e2 fun e => dy s o.dst e fun s' => K e s')
         | _, _ => xc C f args s.sg (U s)
     | none => match yieldOf C s c with
       | some (l, args) => match C.yd l args s.sg s.kl with
         | some (pre, x, sg', ks) => pre ∧ U s x sg' ks
         | none => False
       | none => bP C s o fun e => dy s o.dst e fun s' => K e s'
   | .next x false => rM C s x o.dst K
   | .panic x => fk (iO (s.ev C x)) fun u => X u s
   | _ => bP C s o fun e => dy s o.dst e fun s' => K e s'
 run : Prop := go s
 run' (b : V) (t : Nat) : Prop := dy s (some t) (pe b) fun s => go s
 skip (b : V) (t : Nat) : Prop := dy s (some t) (pe b) fun s => dy s o.dst (pe (.tuple [])) fun s' => K (pe (.tuple [])) s'

theorem DG (C : Ctx) (ops : List Oper) (o : Oper) (s : AS) (f : AS → Prop) (K : Ex → AS → Prop) : yC C ops o s (lF f K) = eS C ops o s (fun _ s' => f s') (fun s x sg ks => jY s o.dst x sg ks f) (fun u s' => K (.pan u) s') := rfl

def kn : Option Operand → List Operand
 | some x => [x]
 | none => []
def pP : List (Nat × Operand) → List Operand
 | [] => []
 | (_, x) :: r => x :: pP r
def gH : Op → List Operand
 | .move x | .assign x | .box _ x | .load _ x | .nilCheck x | .unOp _ _ x | .convert _ _ x | .makeInterface _ x | .fieldAddr _ x _ | .field _ x _ | .range _ x | .next x _ | .typeAssert x _ _ _ | .extract x _ => [x]
 | .pick c a b => [c, a, b]
 | .makeMap _ r => kn r
 | .lookup _ a b _ | .mapEntry _ a b => [a, b]
 | .mapUpdate _ a b c | .entryStore _ a b c => [a, b, c]
 | .entry x => [x]
 | .build _ ps | .buildSlice _ _ ps => pP ps.toList
 | .store _ a v | .binOp _ _ a v _ | .makeSlice _ a v | .indexAddr _ a v | .index _ a v => [a, v]
 | .makeFunc _ a b => a.toList ++ b.toList
 | .slice _ x lo hi mx => x :: (kn lo ++ (kn hi ++ kn mx))
 | .call c => match c.callee with
   | .value f => f :: c.args.toList
   | .invoke r _ => r :: c.args.toList
   | .builtin _ => c.args.toList
 | _ => []
def tmpsOf : List Operand → List Nat
 | [] => []
 | .tmp t :: r => t :: tmpsOf r
 | _ :: r => tmpsOf r
def nG (ops : List Oper) : Option (Nat × Bool) → List Nat
 | none => []
 | some (j, _) => match bM ops j with
   | some t => [t]
   | none => []
def looks (ops : List Oper) (o : Oper) : List Nat := tmpsOf (gH o.op) ++ nG ops o.guard

mutual
def V.free (ks : List Nat) : V → Bool
 | .ptr j _ | .bptr j _ _ | .buf j | .map j => !aF j ks
 | .agg cs | .tuple cs => V.jy ks cs
 | .iface _ x => V.free ks x
 | .func _ fs cs => V.jy ks fs && V.jy ks cs
 | _ => true
def V.jy (ks : List Nat) : List V → Bool
 | [] => true
 | c :: cs => V.free ks c && V.jy ks cs
end
mutual
def V.ku : V → Bool
 | .undef => false
 | .agg cs | .tuple cs => V.jP cs
 | .iface _ x => V.ku x
 | .func _ fs cs => V.jP fs && V.jP cs
 | _ => true
def V.jP : List V → Bool
 | [] => true
 | c :: cs => V.ku c && V.jP cs
end
def lg (ks : List Nat) : List O → Bool
 | [] => true
 | .cells cs :: os => V.jy ks cs && lg ks os
 | .miter m _ _ _ _ :: os => V.free ks m && lg ks os
 | _ :: os => lg ks os
def lH : List O → Bool
 | [] => true
 | .cells cs :: os => V.jP cs && lH os
 | .miter m _ _ _ _ :: os => V.ku m && lH os
 | .dead :: _ => false
 | _ :: os => lH os
def iI (sg : List O) : List Nat → List O
 | [] => []
 | i :: is => ax sg i :: iI sg is

structure Rc where
 d : Option Nat
 us : List Nat
 anc : List Nat
 e : Ef
 n : Nat
 ov : List V
 oo : List O
 lu : Nat × List Nat

def quiet (e : Ef) : Bool := match e with
 | ⟨_, [], [], [], _⟩ => true
 | _ => false
def oY (d : Option Nat) (us : List Nat) : Bool := match d with
 | some d => !aF d us
 | none => true
def yi : Option Nat → Option Nat → Bool
 | some a, some b => !Nat.beq a b
 | _, _ => true
def oP : List (Nat × O) → List Nat → Bool
 | [], _ => true
 | (i, _) :: r, rd => !aF i rd && oP r rd
def oO : List Nat → Nat → Bool
 | [], _ => true
 | i :: is, n => Nat.blt i n && oO is n
def jI (o : Oper) : Nat × List Nat := match o.guard, o.op with
 | none, .lookup t (.tmp m) (.tmp x) false => (1, [t, m, x])
 | none, .mapEntry t (.tmp m) (.tmp x) => (2, [t, m, x])
 | _, _ => (0, [])
def qW : List Nat → List Nat → Bool
 | [], [] => true
 | a :: r, b :: q => Nat.beq a b && qW r q
 | _, _ => false
def pO (j i : Rc) : Bool := Nat.beq j.lu.1 1 && (Nat.beq i.lu.1 2 && qW j.lu.2 i.lu.2)
def indep (j i : Rc) : Bool :=
 oY j.d i.us && oY i.d j.us && yi i.d j.d && (pO j i ||
 match quiet j.e, quiet i.e with
  | true, true => true
  | true, false => V.jy i.e.ks j.ov && lg i.e.ks j.oo && V.free i.e.ks j.e.v && oP i.e.up j.e.rd && oO j.e.rd i.n
  | false, true => V.jP i.ov && lH i.oo && V.free j.e.ks i.e.v && oP j.e.up i.e.rd && oO i.e.rd j.n
  | false, false => false)
def mj (i : Rc) : List Rc → Nat → Bool
 | [], _ => true
 | j :: js, k => (aF k i.anc || indep j i) && mj i js (k + 1)

def dA : Ground → Bool
 | .textOnly _ | .gcOnly _ => false
 | _ => true
def kL : List Rc → Nat → List Nat
 | [], _ => []
 | r :: _, 0 => r.anc
 | _ :: rs, j + 1 => kL rs j
def mY (aU : List Rc) : List Edge → List Nat → List Nat
 | [], acc => acc
 | ⟨on, gr⟩ :: es, acc => cond (dA gr) (mf (dx (on :: kL aU on) acc) fun acc => mY aU es acc) (mY aU es acc)
def k9 (i : Nat) : List Edge → Bool
 | [] => true
 | ⟨on, gr⟩ :: es => (Nat.blt on i || !dA gr) && k9 i es

def stepT (C : Ctx) (ops : List Oper) (s : AS) (o : Oper) : Tr Ef := match o.guard with
 | none => bP C s o
 | some (j, want) => match bM ops j with
   | none => fail
   | some t => match lk s.tm t with
     | .bool b => cond want (j8 b (bP C s o) (ret (pe (.tuple [])))) (j8 b (ret (pe (.tuple []))) (bP C s o))
     | .tuple [] => ret (pe (.tuple []))
     | _ => fail

def gy (C : Ctx) (ops : List Oper) (aU : List Rc) (s : AS) (o : Oper) (e : Ef) : Rc :=
 ⟨o.dst, looks ops o, mY aU o.after.toList [], e, s.sg.length, s.bo C (gH o.op), iI s.sg e.rd, jI o⟩
def r8 (r : Rc) (K : Rc → Prop) : Prop := match r with
 | ⟨d, us, anc, e, n, ov, oo, lu⟩ => gj us fun us => gj anc fun anc => gd e fun e => cg ov fun ov => gS oo fun oo => K ⟨d, us, anc, e, n, ov, oo, lu⟩
@[simp] theorem tW (r : Rc) (K : Rc → Prop) : r8 r K = K r := by cases r; simp [r8, jd]

def nh (C : Ctx) (ops : List Oper) : List Oper → Nat → List Rc → AS → (AS → Prop) → Prop
 | [], _, _, s, K => K s
 | o :: rest, i, aU, s, K => gI (cT s o.dst && k9 i o.after.toList) (stepT C ops s o fun e =>
  gd e fun e => r8 (gy C ops aU s o e) fun r => gI (mj r aU 0) (gj (aU ++ [r]) fun aU => dy s o.dst e fun s' => nh C ops rest (i + 1) aU s' K))

def pC (s : AS) (t : Nat) (b : Bool) (k : AS → Prop) : Prop := match s with
 | ⟨nt, tm, sg, kl⟩ => k ⟨nt, (t, .bool b) :: tm, sg, kl⟩
def sC    (C : Ctx) (ops : List Oper) (s : AS) (o : Oper) (K : Ef → AS → Prop) : Prop := match o.guard with
 | none => bP C s o fun e => K e s
 | some (j, want) => match bM ops j with
   | none => False
   | some t => match lk s.tm t with
     | .bool b => cond want (bG b (pC s t true fun s => bP C s o fun e => K e s) (pC s t false fun s => K (pe (.tuple [])) s))
      (bG b (pC s t true fun s => K (pe (.tuple [])) s) (pC s t false fun s => bP C s o fun e => K e s))
     | .tuple [] => K (pe (.tuple [])) s
     | _ => False
def jv (C : Ctx) (ops : List Oper) : List Oper → Nat → List Rc → AS → (AS → Prop) → Prop
 | [], _, _, s, K => K s
 | o :: rest, i, aU, s, K => gI (cT s o.dst && k9 i o.after.toList) (sC C ops s o fun e s =>
  gd e fun e => r8 (gy C ops aU s o e) fun r => gI (mj r aU 0) (gj (aU ++ [r]) fun aU => dy s o.dst e fun s' => jv C ops rest (i + 1) aU s' K))

def gW : List Edge → List Nat
 | [] => []
 | ⟨on, gr⟩ :: es => cond (dA gr) (on :: gW es) (gW es)
def lV (ops : List Oper) : Nat → List Nat → List Nat
 | 0, cl => cl
 | k + 1, cl => lV ops k (cond (aF k cl) (match ops[k]? with | some o => gW o.after.toList ++ cl | none => cl) cl)
def oN (l : List Nat) : Nat → Bool
 | 0 => true
 | k + 1 => aF k l && oN l k
def Ctx.both (C : Ctx) : Ctx := { C with Γ := fun f a s => match C.Γ f a s with
 | some r => some r
 | none => C.iP.Γ f a s }
def uy (C : Ctx) (o : Oper) (c : Call) (K : Ex → AS → Prop) (s : AS) : Prop := match target C s c with
 | some (f, args) => match ec C.gu s.sg f args, ec C.iP s.sg f args with
   | some (p, e1), some (q, e2) => gI (cT s o.dst) ((p ∨ q) ∧ (p → mD s e1 fun u => K (.pan u)) ∧ (q → gd e2 fun e => dy s o.dst e (K .norm)))
   | _, _ => False
 | none => False
def uV (C : Ctx) (f : FuncId) (d : Tmp) (s : AS) (K : Ex → AS → Prop) (s' : AS) : Prop := match ec C.gu s.sg f [lk s'.tm d] with
 | some (p, e1) => p ∧ mD ⟨s.nt, [], s.sg, s.kl⟩ e1 fun u => K (.pan u)
 | none => False
def hJ : List Oper → Nat → Oper → List Oper
 | [], _, _ => []
 | _ :: os, 0, o => o :: os
 | p :: os, i + 1, o => p :: hJ os i o
def qOp : Op → Bool
 | .move _ | .load _ _ | .fieldAddr _ _ _ | .field _ _ _ | .nilCheck _ => true
 | _ => false
def oa (i : Nat) : List Oper → Nat → Bool
 | [], _ => true
 | o :: os, k => (Nat.beq k i || qOp o.op) && oa i os (k + 1)
def na (i d : Nat) : List Oper → Nat → Bool
 | [], _ => true
 | o :: os, k => (Nat.beq k i || (match o.dst with | some d' => !Nat.beq d' d | none => true)) && na i d os (k + 1)
def oz (ops : List Oper) (i : Nat) : List Oper → Nat → Bool
 | [], _ => true
 | o :: os, n => aF i (lV ops n (gW o.after.toList)) && oz ops i os (n + 1)
inductive oG (C : Ctx) (ops : List Oper) (s : AS) (K : Ex → AS → Prop) : Prop where
 | last (L : List Oper) (o : Oper) (c : Call) (hops : ops = L ++ [o]) (hc : o.op = .call c) (hg : o.guard = none) (he : k9 L.length o.after.toList = true) (hb : oN (lV ops L.length (gW o.after.toList)) L.length = true) (h : jv C.both L L 0 [] s (uy C o c K))
 | pan (L T : List Oper) (i : Nat) (o : Oper) (x : Operand) (d : Tmp) (f : FuncId) (c : Call) (hops : ops = L ++ T) (hi : L[i]? = some o) (hc : o.op = .call c) (hcv : c.callee = .value (.func f)) (hca : c.args = #[x]) (hg : o.guard = none)
  (hd : o.dst = some d) (hq : oa i L 0 = true) (hu : na i d L 0 = true) (ht : oz ops i T L.length = true) (h : jv C.both (hJ L i { o with op := .move x }) (hJ L i { o with op := .move x }) 0 [] s (uV C f d s K))

def wQ (s : AS) (n : Nat) : List (Nat × V) → Prop
 | [] => True
 | (t, x) :: r => (lk s.tm t = x ∧ x.eY n = true) ∧ wQ s n r

def sD : List Nat → List Nat → Bool
 | [], _ => true
 | k :: ks, l => aF k l && sD ks l
structure Sub (n : Nat) (s t : AS) : Prop where
 nt : s.nt = t.nt
 tm : wQ s t.sg.length t.tm
 sg : eu s.sg t.sg t.sg.length
 kl : sD s.kl t.kl = true
 len : Nat.ble n t.sg.length = true

mutual
def V.wf : V → Prop
 | .int k n => k.min ≤ n ∧ n ≤ k.max
 | .str s => s.length ≤ maxLen
 | .list _ _ l => l.length ≤ maxLen ∧ V.ez l
 | .agg cs | .tuple cs | .box cs _ => V.ez cs
 | .iface _ x => V.wf x
 | _ => True
def V.ez : List V → Prop
 | [] => True
 | c :: cs => V.wf c ∧ V.ez cs
end
def O.wf : O → Prop
 | .cells cs => V.ez cs
 | .buf _ _ l => l.length ≤ maxLen ∧ V.ez l
 | .siter s _ => s.length ≤ maxLen
 | .map _ _ es bs _ => es.length = bs.length
 | _ => True
def kC : List (Nat × V) → List Nat → Prop
 | [], _ => True
 | (t, x) :: r, seen => (match aF t seen with
   | true => True
   | false => x.wf) ∧ kC r (t :: seen)
def fu : List O → Prop
 | [] => True
 | o :: os => o.wf ∧ fu os

def mw (s : AS) (c : Operand) (b : Bool) (K : AS → Prop) : Prop := match c, s with
 | .tmp t, ⟨nt, tm, sg, kl⟩ => K ⟨nt, (t, .bool b) :: tm, sg, kl⟩
 | _, s => K s

def fK (i j k : Nat) : Nat := cond (Nat.beq k i) j (cond (Nat.beq k j) i k)
def oc (f : Nat → Option Nat) : List (Nat × V) → List (Nat × V)
 | [] => []
 | (t, x) :: r => (t, x.bk f) :: oc f r
def swapAt (sg : List O) (i j : Nat) : List O := ff (ff sg i (ax sg j)) j (ax sg i)
def jk : List V → Nat → V → List V
 | [], _, _ => []
 | _ :: xs, 0, y => y :: xs
 | x :: xs, n + 1, y => x :: jk xs n y
mutual
def V.put (i : Nat) (y : V) : V → V
 | .buf j => cond (Nat.beq j i) y (.buf j)
 | .agg cs => .agg (V.kq i y cs)
 | .tuple cs => .tuple (V.kq i y cs)
 | .iface t x => .iface t (V.put i y x)
 | .func f a b => .func f (V.kq i y a) (V.kq i y b)
 | .undef => .undef | .int k n => .int k n | .bool b => .bool b | .str s => .str s | .list c z l => .list c z l
 | .nilptr => .nilptr | .box cs o => .box cs o | .nilIface => .nilIface | .nilFunc => .nilFunc | .nilmap => .nilmap
 | .ptr j o => .ptr j o | .bptr j a o => .bptr j a o | .map j => .map j
def V.kq (i : Nat) (y : V) : List V → List V
 | [] => []
 | c :: cs => V.put i y c :: V.kq i y cs
end
def O.put (i : Nat) (y : V) : O → O
 | .cells cs => .cells (V.kq i y cs)
 | .dead => .dead | .buf a b l => .buf a b l | .siter s p => .siter s p | .map a sh es bs ck => .map a sh es bs ck
 | .miter m bs ck l x => .miter (V.put i y m) bs ck l x
def ji (i : Nat) (y : V) : List O → List O
 | [] => []
 | o :: os => o.put i y :: ji i y os
def o9 (i : Nat) (y : V) : List (Nat × V) → List (Nat × V)
 | [] => []
 | (t, x) :: r => (t, V.put i y x) :: o9 i y r
def AS.ko (s : AS) : dY → AS
 | .tm t sz => match lk s.tm t, sz with
   | .list true _ [], sz + 1 => ⟨s.nt, (t, .buf s.sg.length) :: s.tm, s.sg ++ [.buf (sz + 1) 0 []], s.kl⟩
   | _, _ => s
 | .cell i off sz => match ax s.sg i, sz with
   | .cells cs, sz + 1 => match iH cs off with
     | some (.list true _ []) => ⟨s.nt, s.tm, ff s.sg i (.cells (jk cs off (.buf s.sg.length))) ++ [.buf (sz + 1) 0 []], s.kl⟩
     | _ => s
   | _, _ => s
 | .swap i j => match Nat.blt i s.sg.length && Nat.blt j s.sg.length with
   | true => ⟨s.nt, oc (fun k => some (fK i j k)) s.tm, gV (fun k => some (fK i j k)) (swapAt s.sg i j), i :: j :: s.kl⟩
   | false => s
 | .nw => ⟨s.nt, s.tm, s.sg ++ [.buf 1 0 []], s.kl⟩
 | .dk i => match ax s.sg i with
   | .buf sz _ l => ⟨s.nt, o9 i (.list false sz l) s.tm, ff (ji i (.list false sz l) s.sg) i .dead, s.kl⟩
   | _ => s
def AS.bQ (s : AS) : List dY → AS
 | [] => s
 | p :: ps => (s.ko p).bQ ps

def tV (s : AS) (K : AS → Prop) : Prop := match s with
 | ⟨nt, tm, sg, kl⟩ => ke tm fun tm => gS sg fun sg => gj kl fun kl => K ⟨nt, tm, sg, kl⟩
@[simp] theorem KD (s : AS) (K : AS → Prop) : tV s K = K s := by cases s; simp [tV]
def rR (s : AS) (ps : List dY) (K : AS → Prop) : Prop := match ps with
 | [] => K s
 | p :: ps => tV (s.bQ (p :: ps)) K
theorem uX (s : AS) (ps : List dY) (K : AS → Prop) : rR s ps K = K (s.bQ ps) := by cases ps <;> simp [rR, AS.bQ]

def oQ (id : Nat) (K : Ex → AS → Prop) (e : Ex) (s : AS) : Prop := match e with
 | .exit j => match Nat.beq j id with
   | true => K .norm s
   | false => K (.exit j) s
 | e => K e s
inductive bn (n : Nat) (s : AS) (R : AS → (Ex → AS → Prop) → Prop) (K : Ex → AS → Prop) : Prop where
 | mk (X : Type) (inv : X → Prop) (I : X → AS) (μ : X → Nat) (ps : List dY) (x0 : X) (h0 : inv x0) (hs : Sub n (s.bQ ps) (I x0))
  (h : ∀ x, inv x → kC (I x).tm [] → fu (I x).sg → R (I x) (lF (fun s' => ∃ (qs : List dY) (x' : X), inv x' ∧ Sub n (s'.bQ qs) (I x') ∧ μ x' < μ x) K))

def re (l : Nat) (f : AS → Prop) (K : Ex → AS → Prop) (e : Ex) (s : AS) : Prop := match e with
 | .goto j => match Nat.beq j l with
   | true => f s
   | false => False
 | e => K e s
def lz (K : Ex → AS → Prop) (e : Ex) (s : AS) : Prop := match e with
 | .goto _ => False
 | e => K e s
inductive lM (n l : Nat) (s : AS) (R : AS → (Ex → AS → Prop) → Prop) (K : Ex → AS → Prop) : Prop where
 | mk (X : Type) (inv : X → Prop) (I : X → AS) (μ : X → Nat) (ps : List dY) (x0 : X) (h0 : inv x0) (hs : Sub n (s.bQ ps) (I x0))
  (h : ∀ x, inv x → kC (I x).tm [] → fu (I x).sg → R (I x) (re l (fun s' => ∃ (qs : List dY) (x' : X), inv x' ∧ Sub n (s'.bQ qs) (I x') ∧ μ x' < μ x) K))

structure iZ (n : Nat) (st0 : St) (g0 : ah) (st : St) (g : ah) (s : AS) : Prop where
 mono : ∀ b o v, st0 b o = some v → st b o = some v
 aO : ∀ i, i < n → aF i s.kl = false → g i = g0 i
 len : n ≤ s.sg.length
structure eA (E0 E : Env) : Prop where
 G : ∀ b, E.G b → E0.G b
 w0 : ∀ b, ¬ E0.G b → E.w0.heap[b]? = E0.w0.heap[b]?
 os : E.w0.os = E0.w0.os
 tape : E.w0.tape = E0.w0.tape
 output : E.w0.output = E0.w0.output
 size : E0.w0.heap.size ≤ E.w0.heap.size
 st0 : E.st0 = E0.st0
 gnew : ∀ b, E0.w0.heap.size ≤ b → E0.G b
 ds : ∃ Ds : List Nat, E.ds = Ds.map (fun D => { target := .collected D, args := #[] }) ++ E0.ds ∧ Ds.Nodup ∧ ∀ D ∈ Ds, E0.G D ∧ ¬ E.G D ∧ E.w0.heap[D]? = some (.deferred (some []))
abbrev YT : Type := List V → List O → List Nat → Option (Prop × V × List O × List Nat)
def sV (C : Ctx) (E : Env) (n : Nat) (st0 : St) (g0 : ah) (l : Nat) (Y : YT) : Prop := ∀ args (s : AS) pre x sg' ks, Y args s.sg s.kl = some (pre, x, sg', ks) → pre → ∀ (st : St) (g : ah) (w : World) (vs : List Value), aE E st g s.sg w → aL C.gl st → au st g args s.sg.length vs → iZ n st0 g0 st g s →
 YieldAt Fence.wide 0 C.P l vs.toArray w fun en w' => ∃ v st' g', en = .returned v ∧ aE E st' g' sg' w' ∧ VR st' g' x sg'.length v ∧ hP E st g s.sg.length st' g' sg'.length ks
def SeqOK (C : Ctx) (gf : FuncId) (lb : List V) (σ : List O) (Y : YT) (r : List O) (ks : List Nat) : Prop :=
 j0 C.P gf ∧ ∀ (E : Env) (st : St) (g : ah) (w : World) (l : Nat) (vs : List Value), aE E st g σ w → aL C.gl st → E.ds = [] → au st g lb σ.length vs →
  (∀ E', eA E E' → sV C E' σ.length st g l Y) →
  Calls C.P gf (.func (.yield l) #[] #[] :: vs).toArray w fun e w' => ∃ v st' g', e = .returned v ∧ aE E st' g' r w' ∧ (∀ b o v, st b o = some v → st' b o = some v) ∧ σ.length ≤ r.length ∧ ∀ i, i < σ.length → aF i ks = false → g' i = g i
def oA (tm : List (Nat × V)) (kl : List Nat) : List (Nat × V) → Prop
 | [] => True
 | (t, x) :: r => (lk tm t = x ∧ x.kill kl = x) ∧ oA tm kl r
def ry (n : Nat) (ks : List Nat) : List Nat → Bool
 | [] => true
 | k :: kl => (aF k ks || Nat.ble n k) && ry n ks kl
def xi (n : Nat) (sg' : List O) (ks : List Nat) (s : AS) : Prop := ∃ ps : List dY, eu (s.bQ ps).sg sg' sg'.length ∧ ry n ks (s.bQ ps).kl = true ∧ n ≤ sg'.length
def fW : Code → Bool
 | .skip | .label _ | .exit _ | .ret | .goto _ => true
 | .region _ _ d => !d
 | .seq a b | .cond _ a b => fW a && fW b
 | .block _ a => fW a
 | _ => false
inductive sQ (C : Ctx) (s : AS) (g : Operand) (ps : Array Tmp) (A B : Nat → AS → (Ex → AS → Prop) → Prop) (K : Ex → AS → Prop) : Prop where
 | mk (ps0 : List dY) (gf : FuncId) (lb : List V) (Y : YT) (p : Tmp) (tmI tmE : List (Nat × V)) (r : List O) (ks : List Nat)
     (hyd : C.yd = fun _ _ _ _ => none) (hps : ps = #[p]) (hp : Nat.blt p s.nt = true) (hg : (s.bQ ps0).ev C g = .func (.func gf) [] lb) (hseq : SeqOK C gf lb (s.bQ ps0).sg Y r ks)
     (hround : ∀ args (s' : AS) pre y sg' ks', Y args s'.sg s'.kl = some (pre, y, sg', ks') → pre → V.ez args → fu s'.sg → ∃ x, args = [x] ∧ y = .bool true ∧ oA (s.bQ ps0).tm s'.kl tmI ∧
      A s'.sg.length ⟨s.nt, (p, x) :: tmI, s'.sg, []⟩ (fun ex s1 => ex = .norm ∧ B s'.sg.length s1 (fun ex s2 => ex = .norm ∧ xi s'.sg.length sg' ks' s2)))
     (hend : oA (s.bQ ps0).tm ks tmE ∧ K .norm ⟨s.nt, tmE, r, dx ks (s.bQ ps0).kl⟩)

def vc (C : Ctx) (n : Nat) : Code → AS → (Ex → AS → Prop) → Prop
 | .skip, s, K => K .norm s
 | .label _, s, K => K .norm s
 | .region id ops false, s, K => rR s (C.hint id) fun s => dN C ops.toList false ops.toList s K
 | .region id ops true, s, K => rR s (C.hint id) fun s => cond (C.pdr id) (oG C ops.toList s K) (jv C ops.toList ops.toList 0 [] s (K .norm))
 | .seq a b, s, K => vc C n a s (lF (fun s' => vc C n b s' K) K)
 | .cond c x y, s, K => match s.ev C c with
   | .bool b => bG b (mw s c true fun s => vc C n x s K) (mw s c false fun s => vc C n y s K)
   | _ => False
 | .block id c, s, K => vc C n c s (oQ id K)
 | .loop c, s, K => bn n s (vc C n c) K
 | .scope (.seq a (.seq (.label l) b)), s, K => match findLabel a l with
   | none => vc C n a s (lF (fun s' => lM n l s' (vc C n b) K) (lz K))
   | some _ => False
 | .scope c, s, K => vc C n c s (lz K)
 | .exit id, s, K => K (.exit id) s
 | .goto l, s, K => K (.goto l) s
 | .ret, s, K => K .ret s
 | .rangeFunc g ps assign body, s, K => gI (fW assign && fW body) (sQ C s g ps (fun m => vc C m assign) (fun m => vc C m body) K)
 | _, _, _ => False

def fQ : List V → Nat → List (Nat × V)
 | [], _ => []
 | x :: xs, i => (i, x) :: fQ xs (i + 1)
def uW (agg : Bool) (size : Nat) (cs : List V) (off : Nat) : Option V := match agg with
 | true => match iV (iB cs off) size with
   | some r => some (.agg r)
   | none => none
 | false => iH cs off
def lD (  ti : TypeId → TI) (s : AS) : List ResultVar → Option (List V)
 | [] => some []
 | .tmp t :: r => match lD ti s r with
   | some xs => some (lk s.tm t :: xs)
   | none => none
 | .cell b t :: r => match lk s.tm b with
   | .ptr i off => match ax s.sg i with
     | .cells cs => match (ti t).k with
       | .other => none
       | k => match uW k.isAgg (ti t).size cs off, lD ti s r with
         | some x, some xs => some (x :: xs)
         | _, _ => none
     | _ => none
   | _ => none
def mL (ti : TypeId → TI) (s : AS) (rs : List ResultVar) : Option V := match lD ti s rs with
 | some [x] => some x
 | some xs => some (.tuple xs)
 | none => none

def jF (sg : List O) (aO : Bool) : List Nat → Bool
 | [] => true
 | k :: ks => (match ax sg k with
   | .buf _ _ _ => !aO
   | _ => Nat.ble sg.length k) && jF sg aO ks

def sO (ti : TypeId → TI) (rs : List ResultVar) (sg : List O) (x : V) (r : Option (List O)) (s : AS) : Prop := fk (mL ti s rs) fun y => match r with
 | none => y = x ∧ x.eY sg.length = true ∧ eu s.sg sg sg.length ∧ jF sg true s.kl = true
 | some sg' => y = x ∧ x.eY sg'.length = true ∧ eu s.sg sg' sg'.length ∧ jF sg (dD sg') s.kl = true ∧ Nat.ble sg.length sg'.length = true
inductive a8 (ti : TypeId → TI) (rs : List ResultVar) (sg : List O) (x : V) (r : Option (List O)) (s : AS) : Prop where
 | mk (ps : List dY) (h : sO ti rs sg x r (s.bQ ps))
def Ends (ti : TypeId → TI) (rs : List ResultVar) (sg : List O) (x : V) (r : Option (List O)) (e : Ex) (s : AS) : Prop := match e with
 | .exit _ => False
 | .goto _ => False
 | .pan _ => False
 | _ => a8 ti rs sg x r s
def PanQ (sg : List O) (r : Option (List O)) (s : AS) : Prop := match r with
 | none => eu s.sg sg sg.length ∧ jF sg true s.kl = true
 | some sg' => eu s.sg sg' sg'.length ∧ jF sg (dD sg') s.kl = true ∧ Nat.ble sg.length sg'.length = true
inductive cH (sg : List O) (r : Option (List O)) (s : AS) : Prop where
 | mk (ps : List dY) (h : PanQ sg r (s.bQ ps))
def xe (u : Value) (sg : List O) (r : Option (List O)) (e : Ex) (s : AS) : Prop := match e with
 | .pan v => v = u ∧ cH sg r s
 | _ => False

end Go.VG
namespace Go.VG
open Go

def sP (P : Program) (t : TypeId) (sh : List Sc) : Prop := ∀ (st : St) (g : ah) (n : Nat) (cs ds : List V) (r : Bool) (a b : Array Value) (w : World),
 cf sh cs = true → cf sh ds = true → eqs cs ds = some r → cs.length = P.cellsOf t → au st g cs n a.toList → au st g ds n b.toList → (Op.equal t (.agg a) (.agg b)).run P w = .ok r w ∧ P.eqGuardType P.depth t = false

def lS (P : Program) (k : TypeId) : Bool := match P.underlying k with
 | some (.struct _) | some (.array _ _) => true
 | _ => false
def oI (P : Program) (k : TypeId) (sh : List Sc) : Prop := WideMaps.KeyLaw P k ∧ ∀ x, gQ (lS P k) sh x = true → jh x → ∃ l, keyOf P k (cG x) = some l
def TK.yJ (P : Program) (t : TypeId) (sh : List Sc) : TK → Prop
 | .map k _ => oI P k sh
 | _ => sP P t sh
def TK.ok (P : Program) (t : TypeId) : TK → Prop
 | .bool => P.underlying t = some .bool
 | .int k => P.underlying t = some (.int k)
 | .string => P.underlying t = some .string
 | .slice e => P.underlying t = some (.slice e)
 | .array n e => P.underlying t = some (.array n e)
 | .ptr e => P.underlying t = some (.pointer e)
 | .struct fs => ∃ fields, P.underlying t = some (.struct fields) ∧ fields.toList.map (fun f => (f.offset, f.type)) = fs ∧ (fields.toList.mapM (fun f => (P.info? f.type).map fun i => (f.offset, i.size))).isSome = true
 | .iface => ∃ ms, P.underlying t = some (.interface ms)
 | .func => ∃ a b c, P.underlying t = some (.func a b c)
 | .map k e => P.underlying t = some (.map k e)
 | .other => False

def aI (P : Program) (t : TypeId) (i : TI) : Prop := match i.k with
 | .other => True
 | k => k.ok P t ∧ (∃ info, P.info? t = some info ∧ info.size = i.size ∧ info.bytes = i.bytes ∧ ∃ z, info.zero = some z ∧ ∀ (st : St) (g : ah) (n : Nat), VR st g i.zero n z) ∧
  (i.feq ≠ [] → i.k.yJ P t i.feq)

theorem aI.of {P : Program} {t : TypeId} {i : TI} (h : aI P t i) (hk : i.k ≠ .other) : i.k.ok P t ∧ (∃ info, P.info? t = some info ∧ info.size = i.size ∧ info.bytes = i.bytes ∧ ∃ z, info.zero = some z ∧ ∀ (st : St) (g : ah) (n : Nat), VR st g i.zero n z) ∧
     (i.feq ≠ [] → i.k.yJ P t i.feq) := by
 unfold aI at h
 split at h
 . contradiction
 . exact h

section
variable {P : Program} {t : TypeId} {i : TI} (w : World)

theorem fJ (h : aI P t i) (hk : i.k ≠ .other) : (sizeOf t).run P w = .ok i.size w := by
 obtain ⟨_, ⟨info, h1, h2, _⟩, _⟩ := h.of hk
 simp [sizeOf, typeInfo, h1, h2]
theorem tp (h : aI P t i) (hk : i.k ≠ .other) : P.cellsOf t = i.size := by
 obtain ⟨_, ⟨info, h1, h2, _⟩, _⟩ := h.of hk
 simp [Program.cellsOf, h1, h2]
theorem vk (h : aI P t i) (hk : i.k ≠ .other) : ∃ z, (zeroValue t).run P w = .ok z w ∧ ∀ (st : St) (g : ah) (n : Nat), VR st g i.zero n z := by
 obtain ⟨_, ⟨info, h1, h2, _, z, h4, h5⟩, _⟩ := h.of hk
 exact ⟨z, by simp [zeroValue, typeInfo, h1, h4], h5⟩
theorem rW (h : aI P t i) (hk : i.k ≠ .other) : (isAgg t).run P w = .ok i.k.isAgg w := by
 obtain ⟨h1, _, _⟩ := h.of hk
 cases hk' : i.k <;> rw [hk'] at h1 <;> simp only [TK.ok] at h1
 case struct fs => obtain ⟨f, h1, _⟩ := h1; simp [isAgg, run_underlying h1, TK.isAgg]
 case iface => obtain ⟨f, h1⟩ := h1; simp [isAgg, run_underlying h1, TK.isAgg]
 case func => obtain ⟨a, b, c, h1⟩ := h1; simp [isAgg, run_underlying h1, TK.isAgg]
 all_goals simp [isAgg, run_underlying h1, TK.isAgg]
end

theorem rb : ∀ (xs : List V) (n : Nat), iH xs n = xs[n]?
 | [], n => by cases n <;> simp [iH]
 | x :: xs, 0 => by simp [iH]
 | x :: xs, n + 1 => by simp [iH, rb xs n]
theorem tF : ∀ (xs : List V) (n : Nat), iB xs n = xs.drop n
 | xs, 0 => by simp [iB]
 | [], n + 1 => by simp [iB]
 | x :: xs, n + 1 => by simp [iB, tF xs n]
theorem wU : ∀ {xs : List V} {n : Nat} {r : List V}, iV xs n = some r → r = xs.take n ∧ n ≤ xs.length
 | xs, 0, r, h => by simp [iV] at h; simp [h]
 | [], n + 1, r, h => by simp [iV] at h
 | x :: xs, n + 1, r, h => by
   simp only [iV] at h
   split at h
   . rename_i r' hr
     obtain ⟨h1, h2⟩ := wU hr
     cases h
     subst h1
     exact ⟨by simp, by simpa using h2⟩
   . cases h
def over {α : Type} (xs : List α) (o : Nat) (ys : List α) : List α := xs.take o ++ ys ++ xs.drop (o + ys.length)
theorem pX : ∀ {xs : List V} {o : Nat} {ys r : List V}, jj xs o ys = some r → r = over xs o ys ∧ (ys = [] ∨ o + ys.length ≤ xs.length)
 | xs, o, [], r, h => by simp [jj] at h; simp [over, h]
 | [], _, _ :: _, r, h => by simp [jj] at h
 | x :: xs, 0, y :: ys, r, h => by
   simp only [jj] at h
   split at h
   . rename_i r' hr
     obtain ⟨h1, h2⟩ := pX hr
     cases h
     subst h1
     refine ⟨by simp [over], .inr ?_⟩
     rcases h2 with rfl | h2
     . simp
     . simpa using h2
   . cases h
 | x :: xs, n + 1, y :: ys, r, h => by
   simp only [jj] at h
   split at h
   . rename_i r' hr
     obtain ⟨h1, h2⟩ := pX hr
     cases h
     subst h1
     refine ⟨?_, .inr ?_⟩
     . simp only [over, List.take_succ_cons, List.cons_append]
       rw [show n + 1 + (y :: ys).length = (n + (y :: ys).length) + 1 by omega, List.drop_succ_cons]
     . rcases h2 with h2 | h2
       . cases h2
       . simp at h2 ⊢; omega
   . cases h

theorem jJ {α : Type} {xs : List α} {o : Nat} {ys : List α} (h : ys = [] ∨ o + ys.length ≤ xs.length) : (over xs o ys).length = xs.length := by
 rcases h with rfl | h
 . simp [over]
 . simp [over]; omega

theorem sU {st : St} {g : ah} {n o : Nat} {cs ds : List V} {vs us : List Value} (h : au st g cs n vs) (k : au st g ds n us) : au st g (over cs o ds) n (over vs o us) := by
 unfold over
 rw [← dw k]
 exact mX (mX (qD h) k) (qC h)

theorem dO : ∀ {sg : List O} {i : Nat} {o : O}, ax sg i = o → o ≠ .dead → sg[i]? = some o ∧ i < sg.length
 | [], i, o, h, hn => by simp [ax] at h; exact absurd h.symm hn
 | p :: ps, 0, o, h, hn => by simp [ax] at h; simp [h]
 | p :: ps, i + 1, o, h, hn => by
   simp only [ax] at h
   obtain ⟨h1, h2⟩ := dO h hn
   exact ⟨by simpa using h1, by simpa using h2⟩
theorem zN (ks : List Nat) : ∀ sg : List O, ru ks sg = sg.map (O.kill ks)
 | [] => rfl
 | o :: os => by simp [ru, zN ks os]
theorem gD : ∀ (sg : List O) (i : Nat) (o : O), ff sg i o = sg.set i o
 | [], i, o => by simp [ff]
 | p :: ps, 0, o => by simp [ff]
 | p :: ps, i + 1, o => by simp [ff, gD ps i o]
mutual
theorem fA : ∀ (x : V), x.kill [] = x
 | .undef | .int .. | .bool _ | .str _ | .list .. | .nilptr | .box .. | .nilIface | .nilFunc | .nilmap | .ptr .. | .bptr .. | .buf _ | .map _ => by simp [V.kill, aF]
 | .agg cs | .tuple cs => by simp [V.kill, pw cs]
 | .iface t x => by simp [V.kill, fA x]
 | .func f a b => by simp [V.kill, pw a, pw b]
theorem pw : ∀ (x : List V), V.dG [] x = x
 | [] => by simp [V.dG]
 | c :: cs => by simp [V.dG, fA c, pw cs]
end
theorem Hh (o : O) : o.kill [] = o := by cases o <;> simp [O.kill, pw, fA]
theorem pr (ks : List Nat) (sg : List O) : gT ks sg = sg.map (O.kill ks) := by
 cases ks with
 | nil => simp only [gT]; rw [show (O.kill []) = id from funext Hh]; simp
 | cons k ks => simp [gT, zN]
theorem sW (a b : List O) : fM a b = a ++ b := by cases b <;> simp [fM]

theorem Ad (ks : List Nat) : ∀ (tm : List (Nat × V)) (t : Nat), lk (pz ks tm) t = (lk tm t).kill ks
 | [], t => by simp [pz, lk, V.kill]
 | (k, x) :: r, t => by
   simp only [pz, lk]
   cases Nat.beq k t <;> simp [Ad ks r t]
theorem ki (ks : List Nat) (tm : List (Nat × V)) (t : Nat) : lk (gm ks tm) t = (lk tm t).kill ks := by
 cases ks with
 | nil => simp [gm, fA]
 | cons k ks => simp [gm, Ad]

theorem i9 {st : St} {g : ah} {x : V} {n : Nat} {v : Value} (h : VR st g x n v) (hu : x.dQ = false) : au st g x.cells n v.cells.toList := by
 cases x <;> first
  | (simp [V.dQ] at hu; done)
  | (simp only [VR] at h
     first
      | (obtain ⟨vs, rfl, h⟩ := h; exact h)
      | (rename_i cs; obtain ⟨vs, rfl, h⟩ := h; simp only [V.cells, Value.cells]; refine bK ?_ cL; simp only [VR]; exact ⟨vs, rfl, h⟩))
  | skip
 all_goals (
  have h' := h
  simp only [VR] at h
  first
   | (subst h; simp only [V.cells, Value.cells]; exact bK h' cL)
   | (obtain ⟨rfl, _⟩ := h; simp only [V.cells, Value.cells]; exact bK h' cL)
   | (obtain ⟨_, _, rfl, _⟩ := h; simp only [V.cells, Value.cells]; exact bK h' cL)
   | (obtain ⟨_, _, _, rfl, _⟩ := h; simp only [V.cells, Value.cells]; exact bK h' cL)
   | (obtain ⟨_, _, _, rfl⟩ := h; simp only [V.cells, Value.cells]; exact bK h' cL)
   | skip)

end Go.VG
