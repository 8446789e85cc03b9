/-
  The symbolic run of a region and of a piece of code, as conditions.
-/
import Derived.Test.YtllncocibkgjkaaVgA
import Derived.WideKeyMaps
import Derived.WideKeyEntry
set_option linter.unusedSimpArgs false
set_option linter.unusedVariables false
namespace Go.VG
open Go

inductive Ex where
  | norm | exit (id : Nat) | ret | goto (l : Nat) | pan (v : Value)
def bcr (f : AS → Prop) (K : Ex → AS → Prop) (e : Ex) (s : AS) : Prop := match e with
  | .norm => f s
  | e => K e s

def AS.put (s : AS) (d : Option Nat) (v : V) : AS := ⟨s.nt, match d with
  | some d => (d, v) :: s.tm
  | none => s.tm, s.sg, s.kl⟩

def AS.back (s : AS) (d : Option Nat) (x : V) (sg : List O) (ks : List Nat) : AS :=
  ⟨s.nt, match d with
    | some d => (d, x) :: acf ks s.tm
    | none => acf ks s.tm, sg, aof ks s.kl⟩

def ata (s : AS) (d : Option Nat) (x : V) (sg : List O) (ks : List Nat) (K : AS → Prop) : Prop := match s, d with
  | ⟨nt, tm, _, kl⟩, some d => ai4 x fun x => ahw (acf ks tm) fun tm => ae3 sg fun sg => afx (aof ks kl) fun kl => K ⟨nt, (d, x) :: tm, sg, kl⟩
  | ⟨nt, tm, _, kl⟩, none => ahw (acf ks tm) fun tm => ae3 sg fun sg => afx (aof ks kl) fun kl => K ⟨nt, tm, sg, kl⟩
@[simp] theorem a9g (s : AS) (d : Option Nat) (x : V) (sg : List O) (ks : List Nat) (K : AS → Prop) : ata s d x sg ks K = K (s.back d x sg ks) := by
  obtain ⟨nt, tm, sg', kl⟩ := s
  cases d <;> simp [ata, AS.back, aet]

def aee (s : AS) : Option Nat → Bool
  | some d => Nat.blt d s.nt
  | none => true

def ac7 : List Oper → Nat → Option Nat
  | [], _ => none
  | o :: _, 0 => o.dst
  | _ :: os, j + 1 => ac7 os j

def ajw (P : Program) (f : FuncId) : Prop := ∃ fn, P.funcs[f]? = some fn ∧ (fn.name == "runtime.NumGoroutine") = false ∧ fn.body.isNone = false

def aa5 (gl : Nat → Option (List V)) (st : St) : Prop := ∀ b cs, gl b = some cs → ∀ g : aa1, ∃ vs, VRs st g cs 0 vs ∧ ∀ j, j < vs.length → st b j = vs[j]?

structure amc (E : Env) (st : St) (g : aa1) (n : Nat) (st' : St) (g' : aa1) (n' : Nat) (ks : List Nat) : Prop where
  mono : ∀ b o v, st b o = some v → st' b o = some v
  acy : ∀ i, i < n → abk i ks = false → g' i = g i
  len : n ≤ n'

def ACall (C : Ctx) (f : FuncId) (args : List V) (sg : List O) (K : V → List O → List Nat → Prop) : Prop :=
  ajw C.P f ∧ ∀ (E : Env) (st : St) (g : aa1) (w : World) (vs : List Value), abj E st g sg w → aa5 C.gl st → VRs st g args sg.length vs →
    Calls C.P f vs.toArray w fun e w' => ∃ v x sg' ks st' g', e = .returned v ∧ abj E st' g' sg' w' ∧ VR st' g' x sg'.length v ∧ amc E st g sg.length st' g' sg'.length ks ∧ K x sg' ks

def yieldOf (C : Ctx) (s : AS) (c : Call) : Option (Nat × List V) :=
  match c.callee with
  | .value x => match s.ev C x with
    | .func (.yield l) [] [] => some (l, s.evs C c.args.toList)
    | _ => none
  | _ => none
def bb3   (C : Ctx) (s : AS) (x : Operand) (d : Option Nat) (K : Ef → AS → Prop) : Prop := match s.ev C x with
  | .ptr k 0 => match aa7 s.sg k with
    | .miter (.map i) bs ck left _ => match aa7 s.sg i with
      | .map _ _ _ bs' ck' => (bs' = bs ∧ ck' = ck) ∧ (left = [] → aoh s d ⟨.tuple [.bool false], [], [], [], [k, i]⟩ fun s' => K ⟨.tuple [.bool false], [], [], [], [k, i]⟩ s') ∧
          (∀ j, j ∈ left → aoh s d ⟨.tuple [.bool true, .undef, .undef], [], [(k, .miter (.map i) bs ck (left.erase j) j)], [], [k, i]⟩ fun s' => K ⟨.tuple [.bool true, .undef, .undef], [], [(k, .miter (.map i) bs ck (left.erase j) j)], [], [k, i]⟩ s')
      | _ => False
    | _ => False
  | _ => False
def bea (s : AS) (e : Ef) (X : Value → AS → Prop) : Prop := adt e fun e => ari (a51 e.v) fun u => aoh s none ⟨.undef, e.ks, e.up, e.nw, e.rd⟩ (X u)
def bc9 (C : Ctx) (ops : List Oper) (o : Oper) (s : AS) (R : Ex → AS → Prop) : Prop :=
  aky (aee s o.dst) (match o.guard with
  | none => go s
  | some (j, want) => match ac7 ops j with
    | none => False
    | some t => match lk s.tm t with
      | .bool b => brn b (cond want (run' (.bool true) t) (skip (.bool true) t)) (cond want (skip (.bool false) t) (run' (.bool false) t))
      | .tuple [] => skip (.tuple []) t
      | _ => False)
where
  go (s : AS) : Prop := match o.op with
    | .call c => match target C s c with
      | some (f, args) => match adg C s.sg f args with
        | some (pre, e) => pre ∧ adt e fun e => aoh s o.dst e (R .norm)
        | none => match adg C.pnP s.sg f args, adg C.pnR s.sg f args with
          | some (p, e1), some (q, e2) => (p ∨ q) ∧ (p → bea s e1 fun u => R (.pan u)) ∧ (q → adt e2 fun e => aoh s o.dst e (R .norm))
          | _, _ => ACall C f args s.sg fun x sg ks => ata s o.dst x sg ks (R .norm)
      | none => match yieldOf C s c with
        | some (l, args) => match C.yd l args s.sg s.kl with
          | some (pre, x, sg', ks) => pre ∧ ata s o.dst x sg' ks (R .norm)
          | none => False
        | none => aho C s o fun e => aoh s o.dst e (R .norm)
    | .next x false => bb3 C s x o.dst fun _ s' => R .norm s'
    | .panic x => ari (a51 (s.ev C x)) fun u => R (.pan u) s
    | _ => aho C s o fun e => aoh s o.dst e (R .norm)
  run' (b : V) (t : Nat) : Prop := aoh s (some t) (pe b) go
  skip (b : V) (t : Nat) : Prop := aoh s (some t) (pe b) fun s => aoh s o.dst (pe (.tuple [])) (R .norm)

def au4 (C : Ctx) (ops : List Oper) (o : Oper) (rest : List Oper) : Option (Nat × Nat) := match o.op, o.dst, rest with
  | .buildSlice t _ _, some d, o2 :: _ => match o2.op, o2.dst, (C.ti t).k with
    | .convert a b (.tmp d'), some d2, .slice e => match (C.ti e).k with
      | .int .u8 => cond (Nat.beq a t && Nat.beq b t && Nat.beq d d' && !C.lits d) (match o.guard, o2.guard with
        | none, none => some (d, d2)
        | some (j, x), some (j', x') => match ac7 ops j with
          | some u => cond (Nat.beq j j' && Bool.and (x == x') (!Nat.beq u d)) (some (d, d2)) none
          | none => none
        | _, _ => none) none
      | _ => none
    | _, _, _ => none
  | _, _, _ => none
def ajr (s : AS) (p : Option (Nat × Nat)) (K : Bool → AS → Prop) : Prop := match p with
  | none => K false s
  | some (d, d2) => aky (Nat.blt d2 s.nt) (ai4 (lk s.tm d) fun x => K true (s.put (some d2) x))

def afv (C : Ctx) (ops : List Oper) : Bool → List Oper → AS → (Ex → AS → Prop) → Prop
  | _, [], s, K => K .norm s
  | true, _ :: rest, s, K => afv C ops false rest s K
  | false, o :: rest, s, K => bc9 C ops o s (bcr (fun s' => ajr s' (au4 C ops o rest) fun b s'' => afv C ops b rest s'' K) K)

def ac8 (C : Ctx) (ops : List Oper) (o : Oper) (s : AS) (K : Ef → AS → Prop) (U : AS → V → List O → List Nat → Prop) (X : Value → AS → Prop) : Prop :=
  aky (aee s o.dst) (match o.guard with
  | none => run
  | some (j, want) => match ac7 ops j with
    | none => False
    | some t => match lk s.tm t with
      | .bool b => brn b (cond want (run' (.bool true) t) (skip (.bool true) t)) (cond want (skip (.bool false) t) (run' (.bool false) t))
      | .tuple [] => skip (.tuple []) t
      | _ => False)
where
  go (s : AS) : Prop := match o.op with
    | .call c => match target C s c with
      | some (f, args) => match adg C s.sg f args with
        | some (pre, e) => pre ∧ adt e fun e => aoh s o.dst e fun s' => K e s'
        | none => match adg C.pnP s.sg f args, adg C.pnR s.sg f args with
          | some (p, e1), some (q, e2) => (p ∨ q) ∧ (p → bea s e1 X) ∧ (q → adt e2 fun e => aoh s o.dst e fun s' => K e s')
          | _, _ => ACall C f args s.sg (U s)
      | none => match yieldOf C s c with
        | some (l, args) => match C.yd l args s.sg s.kl with
          | some (pre, x, sg', ks) => pre ∧ U s x sg' ks
          | none => False
        | none => aho C s o fun e => aoh s o.dst e fun s' => K e s'
    | .next x false => bb3 C s x o.dst K
    | .panic x => ari (a51 (s.ev C x)) fun u => X u s
    | _ => aho C s o fun e => aoh s o.dst e fun s' => K e s'
  run : Prop := go s
  run' (b : V) (t : Nat) : Prop := aoh s (some t) (pe b) fun s => go s
  skip (b : V) (t : Nat) : Prop := aoh s (some t) (pe b) fun s => aoh s o.dst (pe (.tuple [])) fun s' => K (pe (.tuple [])) s'

theorem a5y (C : Ctx) (ops : List Oper) (o : Oper) (s : AS) (f : AS → Prop) (K : Ex → AS → Prop) : bc9 C ops o s (bcr f K) = ac8 C ops o s (fun _ s' => f s') (fun s x sg ks => ata s o.dst x sg ks f) (fun u s' => K (.pan u) s') := rfl

def alk : Option Operand → List Operand
  | some x => [x]
  | none => []
def aq3 : List (Nat × Operand) → List Operand
  | [] => []
  | (_, x) :: r => x :: aq3 r
def a0c : Op → List Operand
  | .move x | .assign x | .box _ x | .load _ x | .nilCheck x | .unOp _ _ x | .convert _ _ x | .makeInterface _ x | .fieldAddr _ x _ | .field _ x _ | .range _ x | .next x _ | .typeAssert x _ _ _ | .extract x _ => [x]
  | .pick c a b => [c, a, b]
  | .makeMap _ r => alk r
  | .lookup _ a b _ | .mapEntry _ a b => [a, b]
  | .mapUpdate _ a b c | .entryStore _ a b c => [a, b, c]
  | .entry x => [x]
  | .build _ ps | .buildSlice _ _ ps => aq3 ps.toList
  | .store _ a v | .binOp _ _ a v _ | .makeSlice _ a v | .indexAddr _ a v | .index _ a v => [a, v]
  | .makeFunc _ a b => a.toList ++ b.toList
  | .slice _ x lo hi mx => x :: (alk lo ++ (alk hi ++ alk mx))
  | .call c => match c.callee with
    | .value f => f :: c.args.toList
    | .invoke r _ => r :: c.args.toList
    | .builtin _ => c.args.toList
  | _ => []
def tmpsOf : List Operand → List Nat
  | [] => []
  | .tmp t :: r => t :: tmpsOf r
  | _ :: r => tmpsOf r
def ajh (ops : List Oper) : Option (Nat × Bool) → List Nat
  | none => []
  | some (j, _) => match ac7 ops j with
    | some t => [t]
    | none => []
def looks (ops : List Oper) (o : Oper) : List Nat := tmpsOf (a0c o.op) ++ ajh ops o.guard

mutual
def V.free (ks : List Nat) : V → Bool
  | .ptr j _ | .bptr j _ _ | .buf j | .map j => !abk j ks
  | .agg cs | .tuple cs => V.ar8 ks cs
  | .iface _ x => V.free ks x
  | .func _ fs cs => V.ar8 ks fs && V.ar8 ks cs
  | _ => true
def V.ar8 (ks : List Nat) : List V → Bool
  | [] => true
  | c :: cs => V.free ks c && V.ar8 ks cs
end
mutual
def V.auy : V → Bool
  | .undef => false
  | .agg cs | .tuple cs => V.ak6 cs
  | .iface _ x => V.auy x
  | .func _ fs cs => V.ak6 fs && V.ak6 cs
  | _ => true
def V.ak6 : List V → Bool
  | [] => true
  | c :: cs => V.auy c && V.ak6 cs
end
def ao0 (ks : List Nat) : List O → Bool
  | [] => true
  | .cells cs :: os => V.ar8 ks cs && ao0 ks os
  | .miter m _ _ _ _ :: os => V.free ks m && ao0 ks os
  | _ :: os => ao0 ks os
def aj7 : List O → Bool
  | [] => true
  | .cells cs :: os => V.ak6 cs && aj7 os
  | .miter m _ _ _ _ :: os => V.auy m && aj7 os
  | .dead :: _ => false
  | _ :: os => aj7 os
def ai5 (sg : List O) : List Nat → List O
  | [] => []
  | i :: is => aa7 sg i :: ai5 sg is

structure Rc where
  d : Option Nat
  us : List Nat
  anc : List Nat
  e : Ef
  n : Nat
  ov : List V
  oo : List O
  lu : Nat × List Nat

def quiet (e : Ef) : Bool := match e with
  | ⟨_, [], [], [], _⟩ => true
  | _ => false
def al6 (d : Option Nat) (us : List Nat) : Bool := match d with
  | some d => !abk d us
  | none => true
def dstNe : Option Nat → Option Nat → Bool
  | some a, some b => !Nat.beq a b
  | _, _ => true
def ap0 : List (Nat × O) → List Nat → Bool
  | [], _ => true
  | (i, _) :: r, rd => !abk i rd && ap0 r rd
def a57 : List Nat → Nat → Bool
  | [], _ => true
  | i :: is, n => Nat.blt i n && a57 is n
def a95 (o : Oper) : Nat × List Nat := match o.guard, o.op with
  | none, .lookup t (.tmp m) (.tmp x) false => (1, [t, m, x])
  | none, .mapEntry t (.tmp m) (.tmp x) => (2, [t, m, x])
  | _, _ => (0, [])
def eqNs : List Nat → List Nat → Bool
  | [], [] => true
  | a :: r, b :: q => Nat.beq a b && eqNs r q
  | _, _ => false
def ax9 (j i : Rc) : Bool := Nat.beq j.lu.1 1 && (Nat.beq i.lu.1 2 && eqNs j.lu.2 i.lu.2)
def indep (j i : Rc) : Bool :=
  al6 j.d i.us && al6 i.d j.us && dstNe i.d j.d && (ax9 j i ||
  match quiet j.e, quiet i.e with
   | true, true => true
   | true, false => V.ar8 i.e.ks j.ov && ao0 i.e.ks j.oo && V.free i.e.ks j.e.v && ap0 i.e.up j.e.rd && a57 j.e.rd i.n
   | false, true => V.ak6 i.ov && aj7 i.oo && V.free j.e.ks i.e.v && ap0 j.e.up i.e.rd && a57 i.e.rd j.n
   | false, false => false)
def apl (i : Rc) : List Rc → Nat → Bool
  | [], _ => true
  | j :: js, k => (abk k i.anc || indep j i) && apl i js (k + 1)

def afd : Ground → Bool
  | .textOnly _ | .gcOnly _ => false
  | _ => true
def avd : List Rc → Nat → List Nat
  | [], _ => []
  | r :: _, 0 => r.anc
  | _ :: rs, j + 1 => avd rs j
def a2e (adj : List Rc) : List Edge → List Nat → List Nat
  | [], acc => acc
  | ⟨on, gr⟩ :: es, acc => cond (afd gr) (akf (aof (on :: avd adj on) acc) fun acc => a2e adj es acc) (a2e adj es acc)
def ahs (i : Nat) : List Edge → Bool
  | [] => true
  | ⟨on, gr⟩ :: es => (Nat.blt on i || !afd gr) && ahs i es

def stepT (C : Ctx) (ops : List Oper) (s : AS) (o : Oper) : Tr Ef := match o.guard with
  | none => aho C s o
  | some (j, want) => match ac7 ops j with
    | none => fail
    | some t => match lk s.tm t with
      | .bool b => cond want (a5f b (aho C s o) (ret (pe (.tuple [])))) (a5f b (ret (pe (.tuple []))) (aho C s o))
      | .tuple [] => ret (pe (.tuple []))
      | _ => fail

def akl (C : Ctx) (ops : List Oper) (adj : List Rc) (s : AS) (o : Oper) (e : Ef) : Rc :=
  ⟨o.dst, looks ops o, a2e adj o.after.toList [], e, s.sg.length, s.evs C (a0c o.op), ai5 s.sg e.rd, a95 o⟩
def atv (r : Rc) (K : Rc → Prop) : Prop := match r with
  | ⟨d, us, anc, e, n, ov, oo, lu⟩ => afx us fun us => afx anc fun anc => adt e fun e => aam ov fun ov => ae3 oo fun oo => K ⟨d, us, anc, e, n, ov, oo, lu⟩
@[simp] theorem amu (r : Rc) (K : Rc → Prop) : atv r K = K r := by cases r; simp [atv, abw]

def a2l (C : Ctx) (ops : List Oper) : List Oper → Nat → List Rc → AS → (AS → Prop) → Prop
  | [], _, _, s, K => K s
  | o :: rest, i, adj, s, K => aky (aee s o.dst && ahs i o.after.toList) (stepT C ops s o fun e =>
      adt e fun e => atv (akl C ops adj s o e) fun r => aky (apl r adj 0) (afx (adj ++ [r]) fun adj => aoh s o.dst e fun s' => a2l C ops rest (i + 1) adj s' K))

def litk (s : AS) (t : Nat) (b : Bool) (k : AS → Prop) : Prop := match s with
  | ⟨nt, tm, sg, kl⟩ => k ⟨nt, (t, .bool b) :: tm, sg, kl⟩
def bbr   (C : Ctx) (ops : List Oper) (s : AS) (o : Oper) (K : Ef → AS → Prop) : Prop := match o.guard with
  | none => aho C s o fun e => K e s
  | some (j, want) => match ac7 ops j with
    | none => False
    | some t => match lk s.tm t with
      | .bool b => cond want (brn b (litk s t true fun s => aho C s o fun e => K e s) (litk s t false fun s => K (pe (.tuple [])) s))
          (brn b (litk s t true fun s => K (pe (.tuple [])) s) (litk s t false fun s => aho C s o fun e => K e s))
      | .tuple [] => K (pe (.tuple [])) s
      | _ => False
def ak0 (C : Ctx) (ops : List Oper) : List Oper → Nat → List Rc → AS → (AS → Prop) → Prop
  | [], _, _, s, K => K s
  | o :: rest, i, adj, s, K => aky (aee s o.dst && ahs i o.after.toList) (bbr C ops s o fun e s =>
      adt e fun e => atv (akl C ops adj s o e) fun r => aky (apl r adj 0) (afx (adj ++ [r]) fun adj => aoh s o.dst e fun s' => ak0 C ops rest (i + 1) adj s' K))

def alj : List Edge → List Nat
  | [] => []
  | ⟨on, gr⟩ :: es => cond (afd gr) (on :: alj es) (alj es)
def clo (ops : List Oper) : Nat → List Nat → List Nat
  | 0, cl => cl
  | k + 1, cl => clo ops k (cond (abk k cl) (match ops[k]? with | some o => alj o.after.toList ++ cl | none => cl) cl)
def a56 (l : List Nat) : Nat → Bool
  | 0 => true
  | k + 1 => abk k l && a56 l k
def Ctx.both (C : Ctx) : Ctx := { C with Γ := fun f a s => match C.Γ f a s with
  | some r => some r
  | none => C.pnR.Γ f a s }
def bdy (C : Ctx) (o : Oper) (c : Call) (K : Ex → AS → Prop) (s : AS) : Prop := match target C s c with
  | some (f, args) => match adg C.pnP s.sg f args, adg C.pnR s.sg f args with
    | some (p, e1), some (q, e2) => aky (aee s o.dst) ((p ∨ q) ∧ (p → bea s e1 fun u => K (.pan u)) ∧ (q → adt e2 fun e => aoh s o.dst e (K .norm)))
    | _, _ => False
  | none => False
def panK (C : Ctx) (f : FuncId) (d : Tmp) (s : AS) (K : Ex → AS → Prop) (s' : AS) : Prop := match adg C.pnP s.sg f [lk s'.tm d] with
  | some (p, e1) => p ∧ bea ⟨s.nt, [], s.sg, s.kl⟩ e1 fun u => K (.pan u)
  | none => False
def a1p : List Oper → Nat → Oper → List Oper
  | [], _, _ => []
  | _ :: os, 0, o => o :: os
  | p :: os, i + 1, o => p :: a1p os i o
def qOp : Op → Bool
  | .move _ | .load _ _ | .fieldAddr _ _ _ | .field _ _ _ | .nilCheck _ => true
  | _ => false
def ajm (i : Nat) : List Oper → Nat → Bool
  | [], _ => true
  | o :: os, k => (Nat.beq k i || qOp o.op) && ajm i os (k + 1)
def aml (i d : Nat) : List Oper → Nat → Bool
  | [], _ => true
  | o :: os, k => (Nat.beq k i || (match o.dst with | some d' => !Nat.beq d' d | none => true)) && aml i d os (k + 1)
def a4s (ops : List Oper) (i : Nat) : List Oper → Nat → Bool
  | [], _ => true
  | o :: os, n => abk i (clo ops n (alj o.after.toList)) && a4s ops i os (n + 1)
inductive ava (C : Ctx) (ops : List Oper) (s : AS) (K : Ex → AS → Prop) : Prop where
  | last (L : List Oper) (o : Oper) (c : Call) (hops : ops = L ++ [o]) (hc : o.op = .call c) (hg : o.guard = none) (he : ahs L.length o.after.toList = true) (hb : a56 (clo ops L.length (alj o.after.toList)) L.length = true) (h : ak0 C.both L L 0 [] s (bdy C o c K))
  | pan (L T : List Oper) (i : Nat) (o : Oper) (x : Operand) (d : Tmp) (f : FuncId) (c : Call) (hops : ops = L ++ T) (hi : L[i]? = some o) (hc : o.op = .call c) (hcv : c.callee = .value (.func f)) (hca : c.args = #[x]) (hg : o.guard = none)
      (hd : o.dst = some d) (hq : ajm i L 0 = true) (hu : aml i d L 0 = true) (ht : a4s ops i T L.length = true) (h : ak0 C.both (a1p L i { o with op := .move x }) (a1p L i { o with op := .move x }) 0 [] s (panK C f d s K))

def bez (s : AS) (n : Nat) : List (Nat × V) → Prop
  | [] => True
  | (t, x) :: r => (lk s.tm t = x ∧ x.arb n = true) ∧ bez s n r

def subN : List Nat → List Nat → Bool
  | [], _ => true
  | k :: ks, l => abk k l && subN ks l
structure Sub (n : Nat) (s t : AS) : Prop where
  nt : s.nt = t.nt
  tm : bez s t.sg.length t.tm
  sg : agc s.sg t.sg t.sg.length
  kl : subN s.kl t.kl = true
  len : Nat.ble n t.sg.length = true

mutual
def V.wf : V → Prop
  | .int k n => k.min ≤ n ∧ n ≤ k.max
  | .str s => s.length ≤ maxLen
  | .list _ _ l => l.length ≤ maxLen ∧ V.wfL l
  | .agg cs | .tuple cs | .box cs _ => V.wfL cs
  | .iface _ x => V.wf x
  | _ => True
def V.wfL : List V → Prop
  | [] => True
  | c :: cs => V.wf c ∧ V.wfL cs
end
def O.wf : O → Prop
  | .cells cs => V.wfL cs
  | .buf _ _ l => l.length ≤ maxLen ∧ V.wfL l
  | .siter s _ => s.length ≤ maxLen
  | .map _ _ es bs _ => es.length = bs.length
  | _ => True
def bbz : List (Nat × V) → List Nat → Prop
  | [], _ => True
  | (t, x) :: r, seen => (match abk t seen with
    | true => True
    | false => x.wf) ∧ bbz r (t :: seen)
def av2 : List O → Prop
  | [] => True
  | o :: os => o.wf ∧ av2 os

def be1 (s : AS) (c : Operand) (b : Bool) (K : AS → Prop) : Prop := match c, s with
  | .tmp t, ⟨nt, tm, sg, kl⟩ => K ⟨nt, (t, .bool b) :: tm, sg, kl⟩
  | _, s => K s

def swp (i j k : Nat) : Nat := cond (Nat.beq k i) j (cond (Nat.beq k j) i k)
def a4g (f : Nat → Option Nat) : List (Nat × V) → List (Nat × V)
  | [] => []
  | (t, x) :: r => (t, x.ren f) :: a4g f r
def swapAt (sg : List O) (i j : Nat) : List O := ahi (ahi sg i (aa7 sg j)) j (aa7 sg i)
def a8j : List V → Nat → V → List V
  | [], _, _ => []
  | _ :: xs, 0, y => y :: xs
  | x :: xs, n + 1, y => x :: a8j xs n y
mutual
def V.put (i : Nat) (y : V) : V → V
  | .buf j => cond (Nat.beq j i) y (.buf j)
  | .agg cs => .agg (V.bbc i y cs)
  | .tuple cs => .tuple (V.bbc i y cs)
  | .iface t x => .iface t (V.put i y x)
  | .func f a b => .func f (V.bbc i y a) (V.bbc i y b)
  | .undef => .undef | .int k n => .int k n | .bool b => .bool b | .str s => .str s | .list c z l => .list c z l
  | .nilptr => .nilptr | .box cs o => .box cs o | .nilIface => .nilIface | .nilFunc => .nilFunc | .nilmap => .nilmap
  | .ptr j o => .ptr j o | .bptr j a o => .bptr j a o | .map j => .map j
def V.bbc (i : Nat) (y : V) : List V → List V
  | [] => []
  | c :: cs => V.put i y c :: V.bbc i y cs
end
def O.put (i : Nat) (y : V) : O → O
  | .cells cs => .cells (V.bbc i y cs)
  | .dead => .dead | .buf a b l => .buf a b l | .siter s p => .siter s p | .map a sh es bs ck => .map a sh es bs ck
  | .miter m bs ck l x => .miter (V.put i y m) bs ck l x
def aq6 (i : Nat) (y : V) : List O → List O
  | [] => []
  | o :: os => o.put i y :: aq6 i y os
def a4e (i : Nat) (y : V) : List (Nat × V) → List (Nat × V)
  | [] => []
  | (t, x) :: r => (t, V.put i y x) :: a4e i y r
def AS.pro (s : AS) : Pro → AS
  | .tm t sz => match lk s.tm t, sz with
    | .list true _ [], sz + 1 => ⟨s.nt, (t, .buf s.sg.length) :: s.tm, s.sg ++ [.buf (sz + 1) 0 []], s.kl⟩
    | _, _ => s
  | .cell i off sz => match aa7 s.sg i, sz with
    | .cells cs, sz + 1 => match a4z cs off with
      | some (.list true _ []) => ⟨s.nt, s.tm, ahi s.sg i (.cells (a8j cs off (.buf s.sg.length))) ++ [.buf (sz + 1) 0 []], s.kl⟩
      | _ => s
    | _, _ => s
  | .swap i j => match Nat.blt i s.sg.length && Nat.blt j s.sg.length with
    | true => ⟨s.nt, a4g (fun k => some (swp i j k)) s.tm, agm (fun k => some (swp i j k)) (swapAt s.sg i j), i :: j :: s.kl⟩
    | false => s
  | .nw => ⟨s.nt, s.tm, s.sg ++ [.buf 1 0 []], s.kl⟩
  | .frz i => match aa7 s.sg i with
    | .buf sz _ l => ⟨s.nt, a4e i (.list false sz l) s.tm, ahi (aq6 i (.list false sz l) s.sg) i .dead, s.kl⟩
    | _ => s
def AS.ahp (s : AS) : List Pro → AS
  | [] => s
  | p :: ps => (s.pro p).ahp ps

def az5 (s : AS) (K : AS → Prop) : Prop := match s with
  | ⟨nt, tm, sg, kl⟩ => ahw tm fun tm => ae3 sg fun sg => afx kl fun kl => K ⟨nt, tm, sg, kl⟩
@[simp] theorem bf7 (s : AS) (K : AS → Prop) : az5 s K = K s := by cases s; simp [az5]
def bbb (s : AS) (ps : List Pro) (K : AS → Prop) : Prop := match ps with
  | [] => K s
  | p :: ps => az5 (s.ahp (p :: ps)) K
theorem au9 (s : AS) (ps : List Pro) (K : AS → Prop) : bbb s ps K = K (s.ahp ps) := by cases ps <;> simp [bbb, AS.ahp]

def avg (id : Nat) (K : Ex → AS → Prop) (e : Ex) (s : AS) : Prop := match e with
  | .exit j => match Nat.beq j id with
    | true => K .norm s
    | false => K (.exit j) s
  | e => K e s
inductive abt (n : Nat) (s : AS) (R : AS → (Ex → AS → Prop) → Prop) (K : Ex → AS → Prop) : Prop where
  | mk (X : Type) (inv : X → Prop) (I : X → AS) (μ : X → Nat) (ps : List Pro) (x0 : X) (h0 : inv x0) (hs : Sub n (s.ahp ps) (I x0))
      (h : ∀ x, inv x → bbz (I x).tm [] → av2 (I x).sg → R (I x) (bcr (fun s' => ∃ (qs : List Pro) (x' : X), inv x' ∧ Sub n (s'.ahp qs) (I x') ∧ μ x' < μ x) K))

def ba4 (l : Nat) (f : AS → Prop) (K : Ex → AS → Prop) (e : Ex) (s : AS) : Prop := match e with
  | .goto j => match Nat.beq j l with
    | true => f s
    | false => False
  | e => K e s
def ait (K : Ex → AS → Prop) (e : Ex) (s : AS) : Prop := match e with
  | .goto _ => False
  | e => K e s
inductive ay1 (n l : Nat) (s : AS) (R : AS → (Ex → AS → Prop) → Prop) (K : Ex → AS → Prop) : Prop where
  | mk (X : Type) (inv : X → Prop) (I : X → AS) (μ : X → Nat) (ps : List Pro) (x0 : X) (h0 : inv x0) (hs : Sub n (s.ahp ps) (I x0))
      (h : ∀ x, inv x → bbz (I x).tm [] → av2 (I x).sg → R (I x) (ba4 l (fun s' => ∃ (qs : List Pro) (x' : X), inv x' ∧ Sub n (s'.ahp qs) (I x') ∧ μ x' < μ x) K))

structure Bas (n : Nat) (st0 : St) (g0 : aa1) (st : St) (g : aa1) (s : AS) : Prop where
  mono : ∀ b o v, st0 b o = some v → st b o = some v
  acy : ∀ i, i < n → abk i s.kl = false → g i = g0 i
  len : n ≤ s.sg.length
structure agr (E0 E : Env) : Prop where
  G : ∀ b, E.G b → E0.G b
  w0 : ∀ b, ¬ E0.G b → E.w0.heap[b]? = E0.w0.heap[b]?
  os : E.w0.os = E0.w0.os
  tape : E.w0.tape = E0.w0.tape
  output : E.w0.output = E0.w0.output
  size : E0.w0.heap.size ≤ E.w0.heap.size
  st0 : E.st0 = E0.st0
  gnew : ∀ b, E0.w0.heap.size ≤ b → E0.G b
  ds : ∃ Ds : List Nat, E.ds = Ds.map (fun D => { target := .collected D, args := #[] }) ++ E0.ds ∧ Ds.Nodup ∧ ∀ D ∈ Ds, E0.G D ∧ ¬ E.G D ∧ E.w0.heap[D]? = some (.deferred (some []))
abbrev YT : Type := List V → List O → List Nat → Option (Prop × V × List O × List Nat)
def at7 (C : Ctx) (E : Env) (n : Nat) (st0 : St) (g0 : aa1) (l : Nat) (Y : YT) : Prop := ∀ args (s : AS) pre x sg' ks, Y args s.sg s.kl = some (pre, x, sg', ks) → pre → ∀ (st : St) (g : aa1) (w : World) (vs : List Value), abj E st g s.sg w → aa5 C.gl st → VRs st g args s.sg.length vs → Bas n st0 g0 st g s →
  YieldAt Fence.wide 0 C.P l vs.toArray w fun en w' => ∃ v st' g', en = .returned v ∧ abj E st' g' sg' w' ∧ VR st' g' x sg'.length v ∧ amc E st g s.sg.length st' g' sg'.length ks
def SeqOK (C : Ctx) (gf : FuncId) (lb : List V) (σ : List O) (Y : YT) (r : List O) (ks : List Nat) : Prop :=
  ajw C.P gf ∧ ∀ (E : Env) (st : St) (g : aa1) (w : World) (l : Nat) (vs : List Value), abj E st g σ w → aa5 C.gl st → E.ds = [] → VRs st g lb σ.length vs →
    (∀ E', agr E E' → at7 C E' σ.length st g l Y) →
    Calls C.P gf (.func (.yield l) #[] #[] :: vs).toArray w fun e w' => ∃ v st' g', e = .returned v ∧ abj E st' g' r w' ∧ (∀ b o v, st b o = some v → st' b o = some v) ∧ σ.length ≤ r.length ∧ ∀ i, i < σ.length → abk i ks = false → g' i = g i
def bfc (tm : List (Nat × V)) (kl : List Nat) : List (Nat × V) → Prop
  | [] => True
  | (t, x) :: r => (lk tm t = x ∧ x.kill kl = x) ∧ bfc tm kl r
def klIn (n : Nat) (ks : List Nat) : List Nat → Bool
  | [] => true
  | k :: kl => (abk k ks || Nat.ble n k) && klIn n ks kl
def bc5 (n : Nat) (sg' : List O) (ks : List Nat) (s : AS) : Prop := ∃ ps : List Pro, agc (s.ahp ps).sg sg' sg'.length ∧ klIn n ks (s.ahp ps).kl = true ∧ n ≤ sg'.length
def adi : Code → Bool
  | .skip | .label _ | .exit _ | .ret | .goto _ => true
  | .region _ _ d => !d
  | .seq a b | .cond _ a b => adi a && adi b
  | .block _ a => adi a
  | _ => false
inductive a55 (C : Ctx) (s : AS) (g : Operand) (ps : Array Tmp) (A B : Nat → AS → (Ex → AS → Prop) → Prop) (K : Ex → AS → Prop) : Prop where
  | mk (ps0 : List Pro) (gf : FuncId) (lb : List V) (Y : YT) (p : Tmp) (tmI tmE : List (Nat × V)) (r : List O) (ks : List Nat)
      (hyd : C.yd = fun _ _ _ _ => none) (hps : ps = #[p]) (hp : Nat.blt p s.nt = true) (hg : (s.ahp ps0).ev C g = .func (.func gf) [] lb) (hseq : SeqOK C gf lb (s.ahp ps0).sg Y r ks)
      (hround : ∀ args (s' : AS) pre y sg' ks', Y args s'.sg s'.kl = some (pre, y, sg', ks') → pre → V.wfL args → av2 s'.sg → ∃ x, args = [x] ∧ y = .bool true ∧ bfc (s.ahp ps0).tm s'.kl tmI ∧
        A s'.sg.length ⟨s.nt, (p, x) :: tmI, s'.sg, []⟩ (fun ex s1 => ex = .norm ∧ B s'.sg.length s1 (fun ex s2 => ex = .norm ∧ bc5 s'.sg.length sg' ks' s2)))
      (hend : bfc (s.ahp ps0).tm ks tmE ∧ K .norm ⟨s.nt, tmE, r, aof ks (s.ahp ps0).kl⟩)

def vc (C : Ctx) (n : Nat) : Code → AS → (Ex → AS → Prop) → Prop
  | .skip, s, K => K .norm s
  | .label _, s, K => K .norm s
  | .region id ops false, s, K => bbb s (C.hint id) fun s => afv C ops.toList false ops.toList s K
  | .region id ops true, s, K => bbb s (C.hint id) fun s => cond (C.pdr id) (ava C ops.toList s K) (ak0 C ops.toList ops.toList 0 [] s (K .norm))
  | .seq a b, s, K => vc C n a s (bcr (fun s' => vc C n b s' K) K)
  | .cond c x y, s, K => match s.ev C c with
    | .bool b => brn b (be1 s c true fun s => vc C n x s K) (be1 s c false fun s => vc C n y s K)
    | _ => False
  | .block id c, s, K => vc C n c s (avg id K)
  | .loop c, s, K => abt n s (vc C n c) K
  | .scope (.seq a (.seq (.label l) b)), s, K => match findLabel a l with
    | none => vc C n a s (bcr (fun s' => ay1 n l s' (vc C n b) K) (ait K))
    | some _ => False
  | .scope c, s, K => vc C n c s (ait K)
  | .exit id, s, K => K (.exit id) s
  | .goto l, s, K => K (.goto l) s
  | .ret, s, K => K .ret s
  | .rangeFunc g ps assign body, s, K => aky (adi assign && adi body) (a55 C s g ps (fun m => vc C m assign) (fun m => vc C m body) K)
  | _, _, _ => False

def ajs : List V → Nat → List (Nat × V)
  | [], _ => []
  | x :: xs, i => (i, x) :: ajs xs (i + 1)
def beb (agg : Bool) (size : Nat) (cs : List V) (off : Nat) : Option V := match agg with
  | true => match aju (amk cs off) size with
    | some r => some (.agg r)
    | none => none
  | false => a4z cs off
def bcp ( ti : TypeId → TI) (s : AS) : List ResultVar → Option (List V)
  | [] => some []
  | .tmp t :: r => match bcp ti s r with
    | some xs => some (lk s.tm t :: xs)
    | none => none
  | .cell b t :: r => match lk s.tm b with
    | .ptr i off => match aa7 s.sg i with
      | .cells cs => match (ti t).k with
        | .other => none
        | k => match beb k.isAgg (ti t).size cs off, bcp ti s r with
          | some x, some xs => some (x :: xs)
          | _, _ => none
      | _ => none
    | _ => none
def azr (ti : TypeId → TI) (s : AS) (rs : List ResultVar) : Option V := match bcp ti s rs with
  | some [x] => some x
  | some xs => some (.tuple xs)
  | none => none

def a94 (sg : List O) (acy : Bool) : List Nat → Bool
  | [] => true
  | k :: ks => (match aa7 sg k with
    | .buf _ _ _ => !acy
    | _ => Nat.ble sg.length k) && a94 sg acy ks

def EndQ (ti : TypeId → TI) (rs : List ResultVar) (sg : List O) (x : V) (r : Option (List O)) (s : AS) : Prop := ari (azr ti s rs) fun y => match r with
  | none => y = x ∧ x.arb sg.length = true ∧ agc s.sg sg sg.length ∧ a94 sg true s.kl = true
  | some sg' => y = x ∧ x.arb sg'.length = true ∧ agc s.sg sg' sg'.length ∧ a94 sg (afh sg') s.kl = true ∧ Nat.ble sg.length sg'.length = true
inductive aa9 (ti : TypeId → TI) (rs : List ResultVar) (sg : List O) (x : V) (r : Option (List O)) (s : AS) : Prop where
  | mk (ps : List Pro) (h : EndQ ti rs sg x r (s.ahp ps))
def Ends (ti : TypeId → TI) (rs : List ResultVar) (sg : List O) (x : V) (r : Option (List O)) (e : Ex) (s : AS) : Prop := match e with
  | .exit _ => False
  | .goto _ => False
  | .pan _ => False
  | _ => aa9 ti rs sg x r s
def PanQ (sg : List O) (r : Option (List O)) (s : AS) : Prop := match r with
  | none => agc s.sg sg sg.length ∧ a94 sg true s.kl = true
  | some sg' => agc s.sg sg' sg'.length ∧ a94 sg (afh sg') s.kl = true ∧ Nat.ble sg.length sg'.length = true
inductive aa6 (sg : List O) (r : Option (List O)) (s : AS) : Prop where
  | mk (ps : List Pro) (h : PanQ sg r (s.ahp ps))
def a53 (u : Value) (sg : List O) (r : Option (List O)) (e : Ex) (s : AS) : Prop := match e with
  | .pan v => v = u ∧ aa6 sg r s
  | _ => False

end Go.VG
namespace Go.VG
open Go

def bcw (P : Program) (t : TypeId) (sh : List Sc) : Prop := ∀ (st : St) (g : aa1) (n : Nat) (cs ds : List V) (r : Bool) (a b : Array Value) (w : World),
  ad8 sh cs = true → ad8 sh ds = true → eqs cs ds = some r → cs.length = P.cellsOf t → VRs st g cs n a.toList → VRs st g ds n b.toList → (Op.equal t (.agg a) (.agg b)).run P w = .ok r w ∧ P.eqGuardType P.depth t = false

def ay2 (P : Program) (k : TypeId) : Bool := match P.underlying k with
  | some (.struct _) | some (.array _ _) => true
  | _ => false
def a54 (P : Program) (k : TypeId) (sh : List Sc) : Prop := WideMaps.KeyLaw P k ∧ ∀ x, ala (ay2 P k) sh x = true → okK x → ∃ l, keyOf P k (akx x) = some l
def TK.feqOK (P : Program) (t : TypeId) (sh : List Sc) : TK → Prop
  | .map k _ => a54 P k sh
  | _ => bcw P t sh
def TK.ok (P : Program) (t : TypeId) : TK → Prop
  | .bool => P.underlying t = some .bool
  | .int k => P.underlying t = some (.int k)
  | .string => P.underlying t = some .string
  | .slice e => P.underlying t = some (.slice e)
  | .array n e => P.underlying t = some (.array n e)
  | .ptr e => P.underlying t = some (.pointer e)
  | .struct fs => ∃ fields, P.underlying t = some (.struct fields) ∧ fields.toList.map (fun f => (f.offset, f.type)) = fs ∧ (fields.toList.mapM (fun f => (P.info? f.type).map fun i => (f.offset, i.size))).isSome = true
  | .iface => ∃ ms, P.underlying t = some (.interface ms)
  | .func => ∃ a b c, P.underlying t = some (.func a b c)
  | .map k e => P.underlying t = some (.map k e)
  | .other => False

def abq (P : Program) (t : TypeId) (i : TI) : Prop := match i.k with
  | .other => True
  | k => k.ok P t ∧ (∃ info, P.info? t = some info ∧ info.size = i.size ∧ info.bytes = i.bytes ∧ ∃ z, info.zero = some z ∧ ∀ (st : St) (g : aa1) (n : Nat), VR st g i.zero n z) ∧
      (i.feq ≠ [] → i.k.feqOK P t i.feq)

theorem abq.of {P : Program} {t : TypeId} {i : TI} (h : abq P t i) (hk : i.k ≠ .other) : i.k.ok P t ∧ (∃ info, P.info? t = some info ∧ info.size = i.size ∧ info.bytes = i.bytes ∧ ∃ z, info.zero = some z ∧ ∀ (st : St) (g : aa1) (n : Nat), VR st g i.zero n z) ∧
      (i.feq ≠ [] → i.k.feqOK P t i.feq) := by
  unfold abq at h
  split at h
  · contradiction
  · exact h

section
variable {P : Program} {t : TypeId} {i : TI} (w : World)

theorem aby (h : abq P t i) (hk : i.k ≠ .other) : (sizeOf t).run P w = .ok i.size w := by
  obtain ⟨_, ⟨info, h1, h2, _⟩, _⟩ := h.of hk
  simp [sizeOf, typeInfo, h1, h2]
theorem amh (h : abq P t i) (hk : i.k ≠ .other) : P.cellsOf t = i.size := by
  obtain ⟨_, ⟨info, h1, h2, _⟩, _⟩ := h.of hk
  simp [Program.cellsOf, h1, h2]
theorem auh (h : abq P t i) (hk : i.k ≠ .other) : ∃ z, (zeroValue t).run P w = .ok z w ∧ ∀ (st : St) (g : aa1) (n : Nat), VR st g i.zero n z := by
  obtain ⟨_, ⟨info, h1, h2, _, z, h4, h5⟩, _⟩ := h.of hk
  exact ⟨z, by simp [zeroValue, typeInfo, h1, h4], h5⟩
theorem aos (h : abq P t i) (hk : i.k ≠ .other) : (isAgg t).run P w = .ok i.k.isAgg w := by
  obtain ⟨h1, _, _⟩ := h.of hk
  cases hk' : i.k <;> rw [hk'] at h1 <;> simp only [TK.ok] at h1
  case struct fs => obtain ⟨f, h1, _⟩ := h1; simp [isAgg, run_underlying h1, TK.isAgg]
  case iface => obtain ⟨f, h1⟩ := h1; simp [isAgg, run_underlying h1, TK.isAgg]
  case func => obtain ⟨a, b, c, h1⟩ := h1; simp [isAgg, run_underlying h1, TK.isAgg]
  all_goals simp [isAgg, run_underlying h1, TK.isAgg]
end

theorem aty : ∀ (xs : List V) (n : Nat), a4z xs n = xs[n]?
  | [], n => by cases n <;> simp [a4z]
  | x :: xs, 0 => by simp [a4z]
  | x :: xs, n + 1 => by simp [a4z, aty xs n]
theorem aoi : ∀ (xs : List V) (n : Nat), amk xs n = xs.drop n
  | xs, 0 => by simp [amk]
  | [], n + 1 => by simp [amk]
  | x :: xs, n + 1 => by simp [amk, aoi xs n]
theorem av0 : ∀ {xs : List V} {n : Nat} {r : List V}, aju xs n = some r → r = xs.take n ∧ n ≤ xs.length
  | xs, 0, r, h => by simp [aju] at h; simp [h]
  | [], n + 1, r, h => by simp [aju] at h
  | x :: xs, n + 1, r, h => by
    simp only [aju] at h
    split at h
    · rename_i r' hr
      obtain ⟨h1, h2⟩ := av0 hr
      cases h
      subst h1
      exact ⟨by simp, by simpa using h2⟩
    · cases h
def over {α : Type} (xs : List α) (o : Nat) (ys : List α) : List α := xs.take o ++ ys ++ xs.drop (o + ys.length)
theorem aqa : ∀ {xs : List V} {o : Nat} {ys r : List V}, a02 xs o ys = some r → r = over xs o ys ∧ (ys = [] ∨ o + ys.length ≤ xs.length)
  | xs, o, [], r, h => by simp [a02] at h; simp [over, h]
  | [], _, _ :: _, r, h => by simp [a02] at h
  | x :: xs, 0, y :: ys, r, h => by
    simp only [a02] at h
    split at h
    · rename_i r' hr
      obtain ⟨h1, h2⟩ := aqa hr
      cases h
      subst h1
      refine ⟨by simp [over], .inr ?_⟩
      rcases h2 with rfl | h2
      · simp
      · simpa using h2
    · cases h
  | x :: xs, n + 1, y :: ys, r, h => by
    simp only [a02] at h
    split at h
    · rename_i r' hr
      obtain ⟨h1, h2⟩ := aqa hr
      cases h
      subst h1
      refine ⟨?_, .inr ?_⟩
      · simp only [over, List.take_succ_cons, List.cons_append]
        rw [show n + 1 + (y :: ys).length = (n + (y :: ys).length) + 1 by omega, List.drop_succ_cons]
      · rcases h2 with h2 | h2
        · cases h2
        · simp at h2 ⊢; omega
    · cases h

theorem ac0 {α : Type} {xs : List α} {o : Nat} {ys : List α} (h : ys = [] ∨ o + ys.length ≤ xs.length) : (over xs o ys).length = xs.length := by
  rcases h with rfl | h
  · simp [over]
  · simp [over]; omega

theorem at6 {st : St} {g : aa1} {n o : Nat} {cs ds : List V} {vs us : List Value} (h : VRs st g cs n vs) (k : VRs st g ds n us) : VRs st g (over cs o ds) n (over vs o us) := by
  unfold over
  rw [← aad k]
  exact afl (afl (aoe h) k) (aod h)

theorem ab1 : ∀ {sg : List O} {i : Nat} {o : O}, aa7 sg i = o → o ≠ .dead → sg[i]? = some o ∧ i < sg.length
  | [], i, o, h, hn => by simp [aa7] at h; exact absurd h.symm hn
  | p :: ps, 0, o, h, hn => by simp [aa7] at h; simp [h]
  | p :: ps, i + 1, o, h, hn => by
    simp only [aa7] at h
    obtain ⟨h1, h2⟩ := ab1 h hn
    exact ⟨by simpa using h1, by simpa using h2⟩
theorem awr (ks : List Nat) : ∀ sg : List O, a0z ks sg = sg.map (O.kill ks)
  | [] => rfl
  | o :: os => by simp [a0z, awr ks os]
theorem acg : ∀ (sg : List O) (i : Nat) (o : O), ahi sg i o = sg.set i o
  | [], i, o => by simp [ahi]
  | p :: ps, 0, o => by simp [ahi]
  | p :: ps, i + 1, o => by simp [ahi, acg ps i o]
mutual
theorem abp : ∀ (x : V), x.kill [] = x
  | .undef | .int .. | .bool _ | .str _ | .list .. | .nilptr | .box .. | .nilIface | .nilFunc | .nilmap | .ptr .. | .bptr .. | .buf _ | .map _ => by simp [V.kill, abk]
  | .agg cs | .tuple cs => by simp [V.kill, ais cs]
  | .iface t x => by simp [V.kill, abp x]
  | .func f a b => by simp [V.kill, ais a, ais b]
theorem ais : ∀ (x : List V), V.afi [] x = x
  | [] => by simp [V.afi]
  | c :: cs => by simp [V.afi, abp c, ais cs]
end
theorem a7a (o : O) : o.kill [] = o := by cases o <;> simp [O.kill, ais, abp]
theorem afz (ks : List Nat) (sg : List O) : acz ks sg = sg.map (O.kill ks) := by
  cases ks with
  | nil => simp only [acz]; rw [show (O.kill []) = id from funext a7a]; simp
  | cons k ks => simp [acz, awr]
theorem at8 (a b : List O) : ajq a b = a ++ b := by cases b <;> simp [ajq]

theorem a7l (ks : List Nat) : ∀ (tm : List (Nat × V)) (t : Nat), lk (aws ks tm) t = (lk tm t).kill ks
  | [], t => by simp [aws, lk, V.kill]
  | (k, x) :: r, t => by
    simp only [aws, lk]
    cases Nat.beq k t <;> simp [a7l ks r t]
theorem ae4 (ks : List Nat) (tm : List (Nat × V)) (t : Nat) : lk (acf ks tm) t = (lk tm t).kill ks := by
  cases ks with
  | nil => simp [acf, abp]
  | cons k ks => simp [acf, a7l]

theorem adb {st : St} {g : aa1} {x : V} {n : Nat} {v : Value} (h : VR st g x n v) (hu : x.isU = false) : VRs st g x.cells n v.cells.toList := by
  cases x <;> first
    | (simp [V.isU] at hu; done)
    | (simp only [VR] at h
       first
         | (obtain ⟨vs, rfl, h⟩ := h; exact h)
         | (rename_i cs; obtain ⟨vs, rfl, h⟩ := h; simp only [V.cells, Value.cells]; refine aa8 ?_ ab0; simp only [VR]; exact ⟨vs, rfl, h⟩))
    | skip
  all_goals (
    have h' := h
    simp only [VR] at h
    first
      | (subst h; simp only [V.cells, Value.cells]; exact aa8 h' ab0)
      | (obtain ⟨rfl, _⟩ := h; simp only [V.cells, Value.cells]; exact aa8 h' ab0)
      | (obtain ⟨_, _, rfl, _⟩ := h; simp only [V.cells, Value.cells]; exact aa8 h' ab0)
      | (obtain ⟨_, _, _, rfl, _⟩ := h; simp only [V.cells, Value.cells]; exact aa8 h' ab0)
      | (obtain ⟨_, _, _, rfl⟩ := h; simp only [V.cells, Value.cells]; exact aa8 h' ab0)
      | skip)

end Go.VG
