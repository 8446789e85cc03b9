/-
  The symbolic run of a region and of a piece of code, as conditions.
-/
import Derived.Test.YtkkfdkfopdjomaaDoorVgA
import Derived.WideKeyMaps
import Derived.WideKeyEntry
set_option linter.unusedSimpArgs false
set_option linter.unusedVariables false
namespace Go.VG
open Go

inductive Ex where
  | norm | exit (id : Nat) | ret | goto (l : Nat) | pan (v : Value)
def seqK (f : AS → Prop) (K : Ex → AS → Prop) (e : Ex) (s : AS) : Prop := match e with
  | .norm => f s
  | e => K e s

def AS.put (s : AS) (d : Option Nat) (v : V) : AS := ⟨s.nt, match d with
  | some d => (d, v) :: s.tm
  | none => s.tm, s.sg, s.kl⟩

/-- back from a call -/
def AS.back (s : AS) (d : Option Nat) (x : V) (sg : List O) (ks : List Nat) : AS :=
  ⟨s.nt, match d with
    | some d => (d, x) :: killIfTm ks s.tm
    | none => killIfTm ks s.tm, sg, addN ks s.kl⟩

def backK (s : AS) (d : Option Nat) (x : V) (sg : List O) (ks : List Nat) (K : AS → Prop) : Prop := match s, d with
  | ⟨nt, tm, _, kl⟩, some d => forceD x fun x => forceTm (killIfTm ks tm) fun tm => forceOs sg fun sg => forceL (addN ks kl) fun kl => K ⟨nt, (d, x) :: tm, sg, kl⟩
  | ⟨nt, tm, _, kl⟩, none => forceTm (killIfTm ks tm) fun tm => forceOs sg fun sg => forceL (addN ks kl) fun kl => K ⟨nt, tm, sg, kl⟩
@[simp] theorem backK_eq (s : AS) (d : Option Nat) (x : V) (sg : List O) (ks : List Nat) (K : AS → Prop) : backK s d x sg ks K = K (s.back d x sg ks) := by
  obtain ⟨nt, tm, sg', kl⟩ := s
  cases d <;> simp [backK, AS.back, forceD_eq]

def dstOk (s : AS) : Option Nat → Bool
  | some d => Nat.blt d s.nt
  | none => true

def dstAt : List Oper → Nat → Option Nat
  | [], _ => none
  | o :: _, 0 => o.dst
  | _ :: os, j + 1 => dstAt os j

/-- a call of a function that has no summary: what is to be shown of it -/
def CallOK (P : Program) (f : FuncId) : Prop := ∃ fn, P.funcs[f]? = some fn ∧ (fn.name == "runtime.NumGoroutine") = false ∧ fn.body.isNone = false

def GlobOK (gl : Nat → Option (List V)) (st : St) : Prop := ∀ b cs, gl b = some cs → ∀ g : Ghost, ∃ vs, VRs st g cs 0 vs ∧ ∀ j, j < vs.length → st b j = vs[j]?

structure After (E : Env) (st : St) (g : Ghost) (n : Nat) (st' : St) (g' : Ghost) (n' : Nat) (ks : List Nat) : Prop where
  mono : ∀ b o v, st b o = some v → st' b o = some v
  keep : ∀ i, i < n → memN i ks = false → g' i = g i
  len : n ≤ n'

def ACall (C : Ctx) (f : FuncId) (args : List V) (sg : List O) (K : V → List O → List Nat → Prop) : Prop :=
  CallOK C.P f ∧ ∀ (E : Env) (st : St) (g : Ghost) (w : World) (vs : List Value), WRel E st g sg w → GlobOK C.gl st → VRs st g args sg.length vs →
    Calls C.P f vs.toArray w fun e w' => ∃ v x sg' ks st' g', e = .returned v ∧ WRel E st' g' sg' w' ∧ VR st' g' x sg'.length v ∧ After E st g sg.length st' g' sg'.length ks ∧ K x sg' ks

/-- a call of yield: which loop's, with which arguments -/
def yieldOf (C : Ctx) (s : AS) (c : Call) : Option (Nat × List V) :=
  match c.callee with
  | .value x => match s.ev C x with
    | .func (.yield l) [] [] => some (l, s.evs C c.args.toList)
    | _ => none
  | _ => none
/-- the next of a map's entries: any of those that are left -/
def nextM (C : Ctx) (s : AS) (x : Operand) (d : Option Nat) (K : Ef → AS → Prop) : Prop := match s.ev C x with
  | .ptr k 0 => match getSg s.sg k with
    | .miter (.map i) bs ck left _ => match getSg s.sg i with
      | .map _ _ _ bs' ck' => (bs' = bs ∧ ck' = ck) ∧ (left = [] → appK s d ⟨.tuple [.bool false], [], [], [], [k, i]⟩ fun s' => K ⟨.tuple [.bool false], [], [], [], [k, i]⟩ s') ∧
          (∀ j, j ∈ left → appK s d ⟨.tuple [.bool true, .undef, .undef], [], [(k, .miter (.map i) bs ck (left.erase j) j)], [], [k, i]⟩ fun s' => K ⟨.tuple [.bool true, .undef, .undef], [], [(k, .miter (.map i) bs ck (left.erase j) j)], [], [k, i]⟩ s')
      | _ => False
    | _ => False
  | _ => False
def panE (s : AS) (e : Ef) (X : Value → AS → Prop) : Prop := forceEf e fun e => optK (panV e.v) fun u => appK s none ⟨.undef, e.ks, e.up, e.nw, e.rd⟩ (X u)
/-- one operation, guard and all -/
def evStep (C : Ctx) (ops : List Oper) (o : Oper) (s : AS) (R : Ex → AS → Prop) : Prop :=
  whenK (dstOk s o.dst) (match o.guard with
  | none => go s
  | some (j, want) => match dstAt ops j with
    | none => False
    | some t => match lk s.tm t with
      | .bool b => brn b (cond want (run' (.bool true) t) (skip (.bool true) t)) (cond want (skip (.bool false) t) (run' (.bool false) t))
      | .tuple [] => skip (.tuple []) t
      | _ => False)
where
  go (s : AS) : Prop := match o.op with
    | .call c => match target C s c with
      | some (f, args) => match evCall C s.sg f args with
        | some (pre, e) => pre ∧ forceEf e fun e => appK s o.dst e (R .norm)
        | none => match evCall C.pnP s.sg f args, evCall C.pnR s.sg f args with
          | some (p, e1), some (q, e2) => (p ∨ q) ∧ (p → panE s e1 fun u => R (.pan u)) ∧ (q → forceEf e2 fun e => appK s o.dst e (R .norm))
          | _, _ => ACall C f args s.sg fun x sg ks => backK s o.dst x sg ks (R .norm)
      | none => match yieldOf C s c with
        | some (l, args) => match C.yd l args s.sg s.kl with
          | some (pre, x, sg', ks) => pre ∧ backK s o.dst x sg' ks (R .norm)
          | none => False
        | none => evOp C s o fun e => appK s o.dst e (R .norm)
    | .next x false => nextM C s x o.dst fun _ s' => R .norm s'
    | .panic x => optK (panV (s.ev C x)) fun u => R (.pan u) s
    | _ => evOp C s o fun e => appK s o.dst e (R .norm)
  run' (b : V) (t : Nat) : Prop := appK s (some t) (pe b) go
  skip (b : V) (t : Nat) : Prop := appK s (some t) (pe b) fun s => appK s o.dst (pe (.tuple [])) (R .norm)

/-- a text's bytes, written out: a row is laid, and is turned to its own type -/
def litNext (C : Ctx) (ops : List Oper) (o : Oper) (rest : List Oper) : Option (Nat × Nat) := match o.op, o.dst, rest with
  | .buildSlice t _ _, some d, o2 :: _ => match o2.op, o2.dst, (C.ti t).k with
    | .convert a b (.tmp d'), some d2, .slice e => match (C.ti e).k with
      | .int .u8 => cond (Nat.beq a t && Nat.beq b t && Nat.beq d d' && !C.lits d) (match o.guard, o2.guard with
        | none, none => some (d, d2)
        | some (j, x), some (j', x') => match dstAt ops j with
          | some u => cond (Nat.beq j j' && Bool.and (x == x') (!Nat.beq u d)) (some (d, d2)) none
          | none => none
        | _, _ => none) none
      | _ => none
    | _, _, _ => none
  | _, _, _ => none
def copyK (s : AS) (p : Option (Nat × Nat)) (K : Bool → AS → Prop) : Prop := match p with
  | none => K false s
  | some (d, d2) => whenK (Nat.blt d2 s.nt) (forceD (lk s.tm d) fun x => K true (s.put (some d2) x))

def evOps (C : Ctx) (ops : List Oper) : Bool → List Oper → AS → (Ex → AS → Prop) → Prop
  | _, [], s, K => K .norm s
  | true, _ :: rest, s, K => evOps C ops false rest s K
  | false, o :: rest, s, K => evStep C ops o s (seqK (fun s' => copyK s' (litNext C ops o rest) fun b s'' => evOps C ops b rest s'' K) K)

/-- the same, with what is done and what comes back told apart -/
def evStep0 (C : Ctx) (ops : List Oper) (o : Oper) (s : AS) (K : Ef → AS → Prop) (U : AS → V → List O → List Nat → Prop) (X : Value → AS → Prop) : Prop :=
  whenK (dstOk s o.dst) (match o.guard with
  | none => run
  | some (j, want) => match dstAt ops j with
    | none => False
    | some t => match lk s.tm t with
      | .bool b => brn b (cond want (run' (.bool true) t) (skip (.bool true) t)) (cond want (skip (.bool false) t) (run' (.bool false) t))
      | .tuple [] => skip (.tuple []) t
      | _ => False)
where
  go (s : AS) : Prop := match o.op with
    | .call c => match target C s c with
      | some (f, args) => match evCall C s.sg f args with
        | some (pre, e) => pre ∧ forceEf e fun e => appK s o.dst e fun s' => K e s'
        | none => match evCall C.pnP s.sg f args, evCall C.pnR s.sg f args with
          | some (p, e1), some (q, e2) => (p ∨ q) ∧ (p → panE s e1 X) ∧ (q → forceEf e2 fun e => appK s o.dst e fun s' => K e s')
          | _, _ => ACall C f args s.sg (U s)
      | none => match yieldOf C s c with
        | some (l, args) => match C.yd l args s.sg s.kl with
          | some (pre, x, sg', ks) => pre ∧ U s x sg' ks
          | none => False
        | none => evOp C s o fun e => appK s o.dst e fun s' => K e s'
    | .next x false => nextM C s x o.dst K
    | .panic x => optK (panV (s.ev C x)) fun u => X u s
    | _ => evOp C s o fun e => appK s o.dst e fun s' => K e s'
  run : Prop := go s
  run' (b : V) (t : Nat) : Prop := appK s (some t) (pe b) fun s => go s
  skip (b : V) (t : Nat) : Prop := appK s (some t) (pe b) fun s => appK s o.dst (pe (.tuple [])) fun s' => K (pe (.tuple [])) s'

theorem evStep_eq (C : Ctx) (ops : List Oper) (o : Oper) (s : AS) (f : AS → Prop) (K : Ex → AS → Prop) : evStep C ops o s (seqK f K) = evStep0 C ops o s (fun _ s' => f s') (fun s x sg ks => backK s o.dst x sg ks f) (fun u s' => K (.pan u) s') := rfl

/-! operations in an order that is not told -/
def optOps : Option Operand → List Operand
  | some x => [x]
  | none => []
def partOps : List (Nat × Operand) → List Operand
  | [] => []
  | (_, x) :: r => x :: partOps r
def uses : Op → List Operand
  | .move x | .assign x | .box _ x | .load _ x | .nilCheck x | .unOp _ _ x | .convert _ _ x | .makeInterface _ x | .fieldAddr _ x _ | .field _ x _ | .range _ x | .next x _ | .typeAssert x _ _ _ | .extract x _ => [x]
  | .pick c a b => [c, a, b]
  | .makeMap _ r => optOps r
  | .lookup _ a b _ | .mapEntry _ a b => [a, b]
  | .mapUpdate _ a b c | .entryStore _ a b c => [a, b, c]
  | .entry x => [x]
  | .build _ ps | .buildSlice _ _ ps => partOps ps.toList
  | .store _ a v | .binOp _ _ a v _ | .makeSlice _ a v | .indexAddr _ a v | .index _ a v => [a, v]
  | .makeFunc _ a b => a.toList ++ b.toList
  | .slice _ x lo hi mx => x :: (optOps lo ++ (optOps hi ++ optOps mx))
  | .call c => match c.callee with
    | .value f => f :: c.args.toList
    | .invoke r _ => r :: c.args.toList
    | .builtin _ => c.args.toList
  | _ => []
def tmpsOf : List Operand → List Nat
  | [] => []
  | .tmp t :: r => t :: tmpsOf r
  | _ :: r => tmpsOf r
def guardTmp (ops : List Oper) : Option (Nat × Bool) → List Nat
  | none => []
  | some (j, _) => match dstAt ops j with
    | some t => [t]
    | none => []
def looks (ops : List Oper) (o : Oper) : List Nat := tmpsOf (uses o.op) ++ guardTmp ops o.guard

mutual
/-- none of these names -/
def V.free (ks : List Nat) : V → Bool
  | .ptr j _ | .bptr j _ _ | .buf j | .map j => !memN j ks
  | .agg cs | .tuple cs => V.freeL ks cs
  | .iface _ x => V.free ks x
  | .func _ fs cs => V.freeL ks fs && V.freeL ks cs
  | _ => true
def V.freeL (ks : List Nat) : List V → Bool
  | [] => true
  | c :: cs => V.free ks c && V.freeL ks cs
end
mutual
/-- nothing unknown -/
def V.solid : V → Bool
  | .undef => false
  | .agg cs | .tuple cs => V.solidL cs
  | .iface _ x => V.solid x
  | .func _ fs cs => V.solidL fs && V.solidL cs
  | _ => true
def V.solidL : List V → Bool
  | [] => true
  | c :: cs => V.solid c && V.solidL cs
end
def freeOs (ks : List Nat) : List O → Bool
  | [] => true
  | .cells cs :: os => V.freeL ks cs && freeOs ks os
  | .miter m _ _ _ _ :: os => V.free ks m && freeOs ks os
  | _ :: os => freeOs ks os
def solidOs : List O → Bool
  | [] => true
  | .cells cs :: os => V.solidL cs && solidOs os
  | .miter m _ _ _ _ :: os => V.solid m && solidOs os
  | .dead :: _ => false
  | _ :: os => solidOs os
def getSgs (sg : List O) : List Nat → List O
  | [] => []
  | i :: is => getSg sg i :: getSgs sg is

/-- what an operation did, with what it saw -/
structure Rc where
  d : Option Nat
  us : List Nat
  anc : List Nat
  e : Ef
  n : Nat
  ov : List V
  oo : List O
  lu : Nat × List Nat

def quiet (e : Ef) : Bool := match e with
  | ⟨_, [], [], [], _⟩ => true
  | _ => false
def dstApart (d : Option Nat) (us : List Nat) : Bool := match d with
  | some d => !memN d us
  | none => true
def dstNe : Option Nat → Option Nat → Bool
  | some a, some b => !Nat.beq a b
  | _, _ => true
def apartUp : List (Nat × O) → List Nat → Bool
  | [], _ => true
  | (i, _) :: r, rd => !memN i rd && apartUp r rd
def allLt : List Nat → Nat → Bool
  | [], _ => true
  | i :: is, n => Nat.blt i n && allLt is n
/-- a look into a map, and the making of room in it, by their places -/
def luOf (o : Oper) : Nat × List Nat := match o.guard, o.op with
  | none, .lookup t (.tmp m) (.tmp x) false => (1, [t, m, x])
  | none, .mapEntry t (.tmp m) (.tmp x) => (2, [t, m, x])
  | none, .alloc _ => (3, [])
  | _, _ => (0, [])
def eqNs : List Nat → List Nat → Bool
  | [], [] => true
  | a :: r, b :: q => Nat.beq a b && eqNs r q
  | _, _ => false
def pairLE (j i : Rc) : Bool := Nat.beq j.lu.1 1 && (Nat.beq i.lu.1 2 && eqNs j.lu.2 i.lu.2)
/-- two objects are laid, each in a place that is kept for it -/
def twoB (j i : Rc) : Bool := match j.e, i.e with
  | ⟨_, [a], _, [], _⟩, ⟨_, [b], _, [], _⟩ => Nat.beq j.lu.1 3 && Nat.beq i.lu.1 3 && !Nat.beq a b
  | _, _ => false
/-- two operations of which neither has to be first: does their order count? -/
def indep (j i : Rc) : Bool :=
  dstApart j.d i.us && dstApart i.d j.us && dstNe i.d j.d && (pairLE j i ||
  match quiet j.e, quiet i.e with
   | true, true => true
   | true, false => V.freeL i.e.ks j.ov && freeOs i.e.ks j.oo && V.free i.e.ks j.e.v && apartUp i.e.up j.e.rd && allLt j.e.rd i.n
   | false, true => V.solidL i.ov && solidOs i.oo && V.free j.e.ks i.e.v && apartUp j.e.up i.e.rd && allLt i.e.rd j.n
   | false, false => twoB j i)
def indeps (i : Rc) : List Rc → Nat → Bool
  | [], _ => true
  | j :: js, k => (memN k i.anc || indep j i) && indeps i js (k + 1)

def edgeB : Ground → Bool
  | .textOnly _ | .gcOnly _ => false
  | _ => true
def ancAt : List Rc → Nat → List Nat
  | [], _ => []
  | r :: _, 0 => r.anc
  | _ :: rs, j + 1 => ancAt rs j
def ancOf (recs : List Rc) : List Edge → List Nat → List Nat
  | [], acc => acc
  | ⟨on, gr⟩ :: es, acc => cond (edgeB gr) (forceNs (addN (on :: ancAt recs on) acc) fun acc => ancOf recs es acc) (ancOf recs es acc)
def edgesLt (i : Nat) : List Edge → Bool
  | [] => true
  | ⟨on, gr⟩ :: es => (Nat.blt on i || !edgeB gr) && edgesLt i es

def stepT (C : Ctx) (ops : List Oper) (s : AS) (o : Oper) : Tr Ef := match o.guard with
  | none => evOp C s o
  | some (j, want) => match dstAt ops j with
    | none => fail
    | some t => match lk s.tm t with
      | .bool b => cond want (brnT b (evOp C s o) (ret (pe (.tuple [])))) (brnT b (ret (pe (.tuple []))) (evOp C s o))
      | .tuple [] => ret (pe (.tuple []))
      | _ => fail

def recOf (C : Ctx) (ops : List Oper) (recs : List Rc) (s : AS) (o : Oper) (e : Ef) : Rc :=
  ⟨o.dst, looks ops o, ancOf recs o.after.toList [], e, s.sg.length, s.evs C (uses o.op), getSgs s.sg e.rd, luOf o⟩
def forceRc (r : Rc) (K : Rc → Prop) : Prop := match r with
  | ⟨d, us, anc, e, n, ov, oo, lu⟩ => forceL us fun us => forceL anc fun anc => forceEf e fun e => forceDs ov fun ov => forceOs oo fun oo => K ⟨d, us, anc, e, n, ov, oo, lu⟩
@[simp] theorem forceRc_eq (r : Rc) (K : Rc → Prop) : forceRc r K = K r := by cases r; simp [forceRc, forceDs_eq]

def evAny (C : Ctx) (ops : List Oper) : List Oper → Nat → List Rc → AS → (AS → Prop) → Prop
  | [], _, _, s, K => K s
  | o :: rest, i, recs, s, K => whenK (dstOk s o.dst && edgesLt i o.after.toList) (stepT C ops s o fun e =>
      forceEf e fun e => forceRc (recOf C ops recs s o e) fun r => whenK (indeps r recs 0) (forceL (recs ++ [r]) fun recs => appK s o.dst e fun s' => evAny C ops rest (i + 1) recs s' K))

def litk (s : AS) (t : Nat) (b : Bool) (k : AS → Prop) : Prop := match s with
  | ⟨nt, tm, sg, kl⟩ => k ⟨nt, (t, .bool b) :: tm, sg, kl⟩
/-- a guard is told from then on -/
def stepL (C : Ctx) (ops : List Oper) (s : AS) (o : Oper) (K : Ef → AS → Prop) : Prop := match o.guard with
  | none => evOp C s o fun e => K e s
  | some (j, want) => match dstAt ops j with
    | none => False
    | some t => match lk s.tm t with
      | .bool b => cond want (brn b (litk s t true fun s => evOp C s o fun e => K e s) (litk s t false fun s => K (pe (.tuple [])) s))
          (brn b (litk s t true fun s => K (pe (.tuple [])) s) (litk s t false fun s => evOp C s o fun e => K e s))
      | .tuple [] => K (pe (.tuple [])) s
      | _ => False
def evAnyL (C : Ctx) (ops : List Oper) : List Oper → Nat → List Rc → AS → (AS → Prop) → Prop
  | [], _, _, s, K => K s
  | o :: rest, i, recs, s, K => whenK (dstOk s o.dst && edgesLt i o.after.toList) (stepL C ops s o fun e s =>
      forceEf e fun e => forceRc (recOf C ops recs s o e) fun r => whenK (indeps r recs 0) (forceL (recs ++ [r]) fun recs => appK s o.dst e fun s' => evAnyL C ops rest (i + 1) recs s' K))

/-- what an operation stands behind -/
def onsOf : List Edge → List Nat
  | [] => []
  | ⟨on, gr⟩ :: es => cond (edgeB gr) (on :: onsOf es) (onsOf es)
/-- all that stands ahead of these -/
def clo (ops : List Oper) : Nat → List Nat → List Nat
  | 0, cl => cl
  | k + 1, cl => clo ops k (cond (memN k cl) (match ops[k]? with | some o => onsOf o.after.toList ++ cl | none => cl) cl)
def allIn (l : List Nat) : Nat → Bool
  | 0 => true
  | k + 1 => memN k l && allIn l k
/-- what has a summary, or returns where it may panic -/
def Ctx.both (C : Ctx) : Ctx := { C with Γ := fun f a s => match C.Γ f a s with
  | some r => some r
  | none => C.pnR.Γ f a s }
def lastK (C : Ctx) (o : Oper) (c : Call) (K : Ex → AS → Prop) (s : AS) : Prop := match target C s c with
  | some (f, args) => match evCall C.pnP s.sg f args, evCall C.pnR s.sg f args with
    | some (p, e1), some (q, e2) => whenK (dstOk s o.dst) ((p ∨ q) ∧ (p → panE s e1 fun u => K (.pan u)) ∧ (q → forceEf e2 fun e => appK s o.dst e (K .norm)))
    | _, _ => False
  | none => False
def panK (C : Ctx) (f : FuncId) (d : Tmp) (s : AS) (K : Ex → AS → Prop) (s' : AS) : Prop := match evCall C.pnP s.sg f [lk s'.tm d] with
  | some (p, e1) => p ∧ panE ⟨s.nt, [], s.sg, s.kl⟩ e1 fun u => K (.pan u)
  | none => False
def setO : List Oper → Nat → Oper → List Oper
  | [], _, _ => []
  | _ :: os, 0, o => o :: os
  | p :: os, i + 1, o => p :: setO os i o
def qOp : Op → Bool
  | .move _ | .load _ _ | .fieldAddr _ _ _ | .field _ _ _ | .nilCheck _ => true
  | _ => false
/-- but for one all turn nothing -/
def quietOps (i : Nat) : List Oper → Nat → Bool
  | [], _ => true
  | o :: os, k => (Nat.beq k i || qOp o.op) && quietOps i os (k + 1)
/-- but for one nobody writes there -/
def dstOnce (i d : Nat) : List Oper → Nat → Bool
  | [], _ => true
  | o :: os, k => (Nat.beq k i || (match o.dst with | some d' => !Nat.beq d' d | none => true)) && dstOnce i d os (k + 1)
def tailB (ops : List Oper) (i : Nat) : List Oper → Nat → Bool
  | [], _ => true
  | o :: os, n => memN i (clo ops n (onsOf o.after.toList)) && tailB ops i os (n + 1)
/-- what is to be shown of a region whose order is not told, with calls that may panic: all but the last one return; or one of them panics, and nothing else is loud -/
inductive DrawnP (C : Ctx) (ops : List Oper) (s : AS) (K : Ex → AS → Prop) : Prop where
  | last (L : List Oper) (o : Oper) (c : Call) (hops : ops = L ++ [o]) (hc : o.op = .call c) (hg : o.guard = none) (he : edgesLt L.length o.after.toList = true) (hb : allIn (clo ops L.length (onsOf o.after.toList)) L.length = true) (h : evAnyL C.both L L 0 [] s (lastK C o c K))
  | pan (L T : List Oper) (i : Nat) (o : Oper) (x : Operand) (d : Tmp) (f : FuncId) (c : Call) (hops : ops = L ++ T) (hi : L[i]? = some o) (hc : o.op = .call c) (hcv : c.callee = .value (.func f)) (hca : c.args = #[x]) (hg : o.guard = none)
      (hd : o.dst = some d) (hq : quietOps i L 0 = true) (hu : dstOnce i d L 0 = true) (ht : tailB ops i T L.length = true) (h : evAnyL C.both (setO L i { o with op := .move x }) (setO L i { o with op := .move x }) 0 [] s (panK C f d s K))

def subTm (s : AS) (n : Nat) : List (Nat × V) → Prop
  | [] => True
  | (t, x) :: r => (lk s.tm t = x ∧ x.isWs n = true) ∧ subTm s n r

def subN : List Nat → List Nat → Bool
  | [], _ => true
  | k :: ks, l => memN k l && subN ks l
/-- a state that tells less; the first n objects stay -/
structure Sub (n : Nat) (s t : AS) : Prop where
  nt : s.nt = t.nt
  tm : subTm s t.sg.length t.tm
  sg : subSg s.sg t.sg t.sg.length
  kl : subN s.kl t.kl = true
  len : Nat.ble n t.sg.length = true

mutual
/-- what every value is by itself: a whole number is within its kind, and so on -/
def V.wf : V → Prop
  | .int k n => k.min ≤ n ∧ n ≤ k.max
  | .str s => s.length ≤ maxLen
  | .list _ _ l => l.length ≤ maxLen ∧ V.wfL l
  | .agg cs | .tuple cs | .box cs _ => V.wfL cs
  | .iface _ x => V.wf x
  | _ => True
def V.wfL : List V → Prop
  | [] => True
  | c :: cs => V.wf c ∧ V.wfL cs
end
def O.wf : O → Prop
  | .cells cs => V.wfL cs
  | .buf _ _ l => l.length ≤ maxLen ∧ V.wfL l
  | .siter s _ => s.length ≤ maxLen
  | .map _ _ es bs _ => es.length = bs.length
  | _ => True
def wfTm : List (Nat × V) → List Nat → Prop
  | [], _ => True
  | (t, x) :: r, seen => (match memN t seen with
    | true => True
    | false => x.wf) ∧ wfTm r (t :: seen)
def wfSg : List O → Prop
  | [] => True
  | o :: os => o.wf ∧ wfSg os

def litK (s : AS) (c : Operand) (b : Bool) (K : AS → Prop) : Prop := match c, s with
  | .tmp t, ⟨nt, tm, sg, kl⟩ => K ⟨nt, (t, .bool b) :: tm, sg, kl⟩
  | _, s => K s

def swp (i j k : Nat) : Nat := cond (Nat.beq k i) j (cond (Nat.beq k j) i k)
def renTm (f : Nat → Option Nat) : List (Nat × V) → List (Nat × V)
  | [] => []
  | (t, x) :: r => (t, x.ren f) :: renTm f r
def swapAt (sg : List O) (i j : Nat) : List O := setSg (setSg sg i (getSg sg j)) j (getSg sg i)
def setN : List V → Nat → V → List V
  | [], _, _ => []
  | _ :: xs, 0, y => y :: xs
  | x :: xs, n + 1, y => x :: setN xs n y
mutual
/-- y in the place of buffer i, or z in the place of a pointer into it -/
def V.put (i : Nat) (y : V) (z : Nat → V) : V → V
  | .buf j => cond (Nat.beq j i) y (.buf j)
  | .agg cs => .agg (V.putL i y z cs)
  | .tuple cs => .tuple (V.putL i y z cs)
  | .iface t x => .iface t (V.put i y z x)
  | .func f a b => .func f (V.putL i y z a) (V.putL i y z b)
  | .undef => .undef | .int k n => .int k n | .bool b => .bool b | .str s => .str s | .list c z l => .list c z l
  | .nilptr => .nilptr | .box cs o => .box cs o | .nilIface => .nilIface | .nilFunc => .nilFunc | .nilmap => .nilmap
  | .ptr j o => cond (Nat.beq j i) (z o) (.ptr j o)
  | .bptr j a o => .bptr j a o | .map j => .map j
def V.putL (i : Nat) (y : V) (z : Nat → V) : List V → List V
  | [] => []
  | c :: cs => V.put i y z c :: V.putL i y z cs
end
def O.put (i : Nat) (y : V) (z : Nat → V) : O → O
  | .cells cs => .cells (V.putL i y z cs)
  | .dead => .dead | .buf a b l => .buf a b l | .siter s p => .siter s p | .map a sh es bs ck => .map a sh es bs ck
  | .miter m bs ck l x => .miter (V.put i y z m) bs ck l x
def putSg (i : Nat) (y : V) (z : Nat → V) : List O → List O
  | [] => []
  | o :: os => o.put i y z :: putSg i y z os
def putTm (i : Nat) (y : V) (z : Nat → V) : List (Nat × V) → List (Nat × V)
  | [] => []
  | (t, x) :: r => (t, V.put i y z x) :: putTm i y z r
def AS.pro (s : AS) : Pro → AS
  | .tm t sz => match lk s.tm t, sz with
    | .list true _ [], sz + 1 => ⟨s.nt, (t, .buf s.sg.length) :: s.tm, s.sg ++ [.buf (sz + 1) 0 []], s.kl⟩
    | _, _ => s
  | .cell i off sz => match getSg s.sg i, sz with
    | .cells cs, sz + 1 => match getL cs off with
      | some (.list true _ []) => ⟨s.nt, s.tm, setSg s.sg i (.cells (setN cs off (.buf s.sg.length))) ++ [.buf (sz + 1) 0 []], s.kl⟩
      | _ => s
    | _, _ => s
  | .swap i j => match Nat.blt i s.sg.length && Nat.blt j s.sg.length with
    | true => ⟨s.nt, renTm (fun k => some (swp i j k)) s.tm, mapRen (fun k => some (swp i j k)) (swapAt s.sg i j), i :: j :: s.kl⟩
    | false => s
  | .nw => ⟨s.nt, s.tm, s.sg ++ [.buf 1 0 []], s.kl⟩
  | .res => ⟨s.nt, s.tm, s.sg ++ [.dead], s.kl⟩
  | .frz i => match getSg s.sg i with
    | .buf sz _ l => ⟨s.nt, putTm i (.list false sz l) (.ptr i) s.tm, setSg (putSg i (.list false sz l) (.ptr i) s.sg) i .dead, s.kl⟩
    | _ => s
  | .fbx i => match getSg s.sg i with
    | .cells cs => cond (V.pureL cs) ⟨s.nt, putTm i (.buf i) (.box cs) s.tm, setSg (putSg i (.buf i) (.box cs) s.sg) i .dead, s.kl⟩ s
    | _ => s
def AS.pros (s : AS) : List Pro → AS
  | [] => s
  | p :: ps => (s.pro p).pros ps

/-- what is held otherwise ahead of a region -/
def forceAS (s : AS) (K : AS → Prop) : Prop := match s with
  | ⟨nt, tm, sg, kl⟩ => forceTm tm fun tm => forceOs sg fun sg => forceL kl fun kl => K ⟨nt, tm, sg, kl⟩
@[simp] theorem forceAS_eq (s : AS) (K : AS → Prop) : forceAS s K = K s := by cases s; simp [forceAS]
def prosK (s : AS) (ps : List Pro) (K : AS → Prop) : Prop := match ps with
  | [] => K s
  | p :: ps => forceAS (s.pros (p :: ps)) K
theorem prosK_eq (s : AS) (ps : List Pro) (K : AS → Prop) : prosK s ps K = K (s.pros ps) := by cases ps <;> simp [prosK, AS.pros]

/-- what is to be shown of a loop -/
def blockK (id : Nat) (K : Ex → AS → Prop) (e : Ex) (s : AS) : Prop := match e with
  | .exit j => match Nat.beq j id with
    | true => K .norm s
    | false => K (.exit j) s
  | e => K e s
inductive LoopP (n : Nat) (s : AS) (R : AS → (Ex → AS → Prop) → Prop) (K : Ex → AS → Prop) : Prop where
  | mk (X : Type) (inv : X → Prop) (I : X → AS) (μ : X → Nat) (ps : List Pro) (x0 : X) (h0 : inv x0) (hs : Sub n (s.pros ps) (I x0))
      (h : ∀ x, inv x → wfTm (I x).tm [] → wfSg (I x).sg → R (I x) (seqK (fun s' => ∃ (qs : List Pro) (x' : X), inv x' ∧ Sub n (s'.pros qs) (I x') ∧ μ x' < μ x) K))

/-- what is to be shown of what is gone back to by a goto -/
def gotoK (l : Nat) (f : AS → Prop) (K : Ex → AS → Prop) (e : Ex) (s : AS) : Prop := match e with
  | .goto j => match Nat.beq j l with
    | true => f s
    | false => False
  | e => K e s
def noGotoK (K : Ex → AS → Prop) (e : Ex) (s : AS) : Prop := match e with
  | .goto _ => False
  | e => K e s
inductive GotoP (n l : Nat) (s : AS) (R : AS → (Ex → AS → Prop) → Prop) (K : Ex → AS → Prop) : Prop where
  | mk (X : Type) (inv : X → Prop) (I : X → AS) (μ : X → Nat) (ps : List Pro) (x0 : X) (h0 : inv x0) (hs : Sub n (s.pros ps) (I x0))
      (h : ∀ x, inv x → wfTm (I x).tm [] → wfSg (I x).sg → R (I x) (gotoK l (fun s' => ∃ (qs : List Pro) (x' : X), inv x' ∧ Sub n (s'.pros qs) (I x') ∧ μ x' < μ x) K))

/-- since the body began -/
structure Bas (n : Nat) (st0 : St) (g0 : Ghost) (st : St) (g : Ghost) (s : AS) : Prop where
  mono : ∀ b o v, st0 b o = some v → st b o = some v
  keep : ∀ i, i < n → memN i s.kl = false → g i = g0 i
  len : n ≤ s.sg.length
/-- an environment within another one: some blocks are set aside (a loop's record, its deferred calls) -/
structure EnvOK (E0 E : Env) : Prop where
  G : ∀ b, E.G b → E0.G b
  w0 : ∀ b, ¬ E0.G b → E.w0.heap[b]? = E0.w0.heap[b]?
  os : E.w0.os = E0.w0.os
  tape : E.w0.tape = E0.w0.tape
  output : E.w0.output = E0.w0.output
  size : E0.w0.heap.size ≤ E.w0.heap.size
  st0 : E.st0 = E0.st0
  gnew : ∀ b, E0.w0.heap.size ≤ b → E0.G b
  ds : ∃ Ds : List Nat, E.ds = Ds.map (fun D => { target := .collected D, args := #[] }) ++ E0.ds ∧ Ds.Nodup ∧ ∀ D ∈ Ds, E0.G D ∧ ¬ E.G D ∧ E.w0.heap[D]? = some (.deferred (some []))
abbrev YT : Type := List V → List O → List Nat → Option (Prop × V × List O × List Nat)
/-- what a call of yield does -/
def YieldSem (C : Ctx) (E : Env) (n : Nat) (st0 : St) (g0 : Ghost) (l : Nat) (Y : YT) : Prop := ∀ args (s : AS) pre x sg' ks, Y args s.sg s.kl = some (pre, x, sg', ks) → pre → ∀ (st : St) (g : Ghost) (w : World) (vs : List Value), WRel E st g s.sg w → GlobOK C.gl st → VRs st g args s.sg.length vs → Bas n st0 g0 st g s →
  YieldAt Fence.wide 0 C.P l vs.toArray w fun en w' => ∃ v st' g', en = .returned v ∧ WRel E st' g' sg' w' ∧ VR st' g' x sg'.length v ∧ After E st g s.sg.length st' g' sg'.length ks
/-- what a function does that is ranged over -/
def SeqOK (C : Ctx) (gf : FuncId) (lb : List V) (σ : List O) (Y : YT) (r : List O) (ks : List Nat) : Prop :=
  CallOK C.P gf ∧ ∀ (E : Env) (st : St) (g : Ghost) (w : World) (l : Nat) (vs : List Value), WRel E st g σ w → GlobOK C.gl st → E.ds = [] → VRs st g lb σ.length vs →
    (∀ E', EnvOK E E' → YieldSem C E' σ.length st g l Y) →
    Calls C.P gf (.func (.yield l) #[] #[] :: vs).toArray w fun e w' => ∃ v st' g', e = .returned v ∧ WRel E st' g' r w' ∧ (∀ b o v, st b o = some v → st' b o = some v) ∧ σ.length ≤ r.length ∧ ∀ i, i < σ.length → memN i ks = false → g' i = g i
def tmOK (tm : List (Nat × V)) (kl : List Nat) : List (Nat × V) → Prop
  | [] => True
  | (t, x) :: r => (lk tm t = x ∧ x.kill kl = x) ∧ tmOK tm kl r
def klIn (n : Nat) (ks : List Nat) : List Nat → Bool
  | [] => true
  | k :: kl => (memN k ks || Nat.ble n k) && klIn n ks kl
/-- how a round ends -/
def RoundE (n : Nat) (sg' : List O) (ks : List Nat) (s : AS) : Prop := ∃ ps : List Pro, subSg (s.pros ps).sg sg' sg'.length ∧ klIn n ks (s.pros ps).kl = true ∧ n ≤ sg'.length
/-- code that is walked in a round as anywhere -/
def simpleC : Code → Bool
  | .skip | .label _ | .exit _ | .ret | .goto _ => true
  | .region _ _ d => !d
  | .seq a b | .cond _ a b => simpleC a && simpleC b
  | .block _ a | .loop a => simpleC a
  | _ => false
/-- a loop's variables are given values -/
def bindTm : List Nat → List V → List (Nat × V) → List (Nat × V)
  | p :: ps, x :: xs, tm => bindTm ps xs ((p, x) :: tm)
  | _, _, tm => tm
/-- what is to be shown of a range over a function -/
inductive RangeP (C : Ctx) (s : AS) (g : Operand) (ps : Array Tmp) (A B : Nat → AS → (Ex → AS → Prop) → Prop) (K : Ex → AS → Prop) : Prop where
  | mk (ps0 : List Pro) (gf : FuncId) (lb : List V) (Y : YT) (tmI tmE : List (Nat × V)) (r : List O) (ks : List Nat)
      (hyd : C.yd = fun _ _ _ _ => none) (hp : allLt ps.toList s.nt = true) (hg : (s.pros ps0).ev C g = .func (.func gf) [] lb) (hseq : SeqOK C gf lb (s.pros ps0).sg Y r ks)
      (hround : ∀ args (s' : AS) pre y sg' ks', Y args s'.sg s'.kl = some (pre, y, sg', ks') → pre → V.wfL args → wfSg s'.sg → ps.toList.length = args.length ∧ y = .bool true ∧ tmOK (s.pros ps0).tm s'.kl tmI ∧
        A s'.sg.length ⟨s.nt, bindTm ps.toList args tmI, s'.sg, []⟩ (fun ex s1 => ex = .norm ∧ B s'.sg.length s1 (fun ex s2 => ex = .norm ∧ RoundE s'.sg.length sg' ks' s2)))
      (hend : tmOK (s.pros ps0).tm ks tmE ∧ K .norm ⟨s.nt, tmE, r, addN ks (s.pros ps0).kl⟩)

def vc (C : Ctx) (n : Nat) : Code → AS → (Ex → AS → Prop) → Prop
  | .skip, s, K => K .norm s
  | .label _, s, K => K .norm s
  | .region id ops false, s, K => prosK s (C.hint id) fun s => evOps C ops.toList false ops.toList s K
  | .region id ops true, s, K => prosK s (C.hint id) fun s => cond (C.pdr id) (DrawnP C ops.toList s K) (evAnyL C ops.toList ops.toList 0 [] s (K .norm))
  | .seq a b, s, K => vc C n a s (seqK (fun s' => vc C n b s' K) K)
  | .cond c x y, s, K => match s.ev C c with
    | .bool b => brn b (litK s c true fun s => vc C n x s K) (litK s c false fun s => vc C n y s K)
    | _ => False
  | .block id c, s, K => vc C n c s (blockK id K)
  | .loop c, s, K => LoopP n s (vc C n c) K
  | .scope (.seq a (.seq (.label l) b)), s, K => match findLabel a l with
    | none => vc C n a s (seqK (fun s' => GotoP n l s' (vc C n b) K) (noGotoK K))
    | some _ => False
  | .scope c, s, K => vc C n c s (noGotoK K)
  | .exit id, s, K => K (.exit id) s
  | .goto l, s, K => K (.goto l) s
  | .ret, s, K => K .ret s
  | .rangeFunc g ps assign body, s, K => whenK (simpleC assign && simpleC body) (RangeP C s g ps (fun m => vc C m assign) (fun m => vc C m body) K)
  | _, _, _ => False

def enumA : List V → Nat → List (Nat × V)
  | [], _ => []
  | x :: xs, i => (i, x) :: enumA xs (i + 1)
/-- part of some cells -/
def partO (agg : Bool) (size : Nat) (cs : List V) (off : Nat) : Option V := match agg with
  | true => match takeL (dropL cs off) size with
    | some r => some (.agg r)
    | none => none
  | false => getL cs off
def resV (ti : TypeId → TI) (s : AS) : List ResultVar → Option (List V)
  | [] => some []
  | .tmp t :: r => match resV ti s r with
    | some xs => some (lk s.tm t :: xs)
    | none => none
  | .cell b t :: r => match lk s.tm b with
    | .ptr i off => match getSg s.sg i with
      | .cells cs => match (ti t).k with
        | .other => none
        | k => match partO k.isAgg (ti t).size cs off, resV ti s r with
          | some x, some xs => some (x :: xs)
          | _, _ => none
      | _ => none
    | _ => none
def resOf (ti : TypeId → TI) (s : AS) (rs : List ResultVar) : Option V := match resV ti s rs with
  | some [x] => some x
  | some xs => some (.tuple xs)
  | none => none

/-- who was struck of the first objects -/
def klOk (sg : List O) (keep : Bool) : List Nat → Bool
  | [] => true
  | k :: ks => (match getSg sg k with
    | .buf _ _ _ => !keep
    | _ => Nat.ble sg.length k) && klOk sg keep ks

/-- how a function's body ends -/
def EndQ (ti : TypeId → TI) (rs : List ResultVar) (sg : List O) (x : V) (r : Option (List O)) (s : AS) : Prop := optK (resOf ti s rs) fun y => match r with
  | none => y = x ∧ x.isWs sg.length = true ∧ subSg s.sg sg sg.length ∧ klOk sg true s.kl = true
  | some sg' => y = x ∧ x.isWs sg'.length = true ∧ subSg s.sg sg' sg'.length ∧ klOk sg (keepM sg') s.kl = true ∧ Nat.ble sg.length sg'.length = true
inductive EndP (ti : TypeId → TI) (rs : List ResultVar) (sg : List O) (x : V) (r : Option (List O)) (s : AS) : Prop where
  | mk (ps : List Pro) (h : EndQ ti rs sg x r (s.pros ps))
def Ends (ti : TypeId → TI) (rs : List ResultVar) (sg : List O) (x : V) (r : Option (List O)) (e : Ex) (s : AS) : Prop := match e with
  | .exit _ => False
  | .goto _ => False
  | .pan _ => False
  | _ => EndP ti rs sg x r s
/-- how a function's body ends that panics -/
def PanQ (sg : List O) (r : Option (List O)) (s : AS) : Prop := match r with
  | none => subSg s.sg sg sg.length ∧ klOk sg true s.kl = true
  | some sg' => subSg s.sg sg' sg'.length ∧ klOk sg (keepM sg') s.kl = true ∧ Nat.ble sg.length sg'.length = true
inductive PanP (sg : List O) (r : Option (List O)) (s : AS) : Prop where
  | mk (ps : List Pro) (h : PanQ sg r (s.pros ps))
def EndsPan (u : Value) (sg : List O) (r : Option (List O)) (e : Ex) (s : AS) : Prop := match e with
  | .pan v => v = u ∧ PanP sg r s
  | _ => False

end Go.VG
namespace Go.VG
open Go

def FeqOK (P : Program) (t : TypeId) (sh : List Sc) : Prop := ∀ (st : St) (g : Ghost) (n : Nat) (cs ds : List V) (r : Bool) (a b : Array Value) (w : World),
  fitsL sh cs = true → fitsL sh ds = true → eqs cs ds = some r → cs.length = P.cellsOf t → VRs st g cs n a.toList → VRs st g ds n b.toList → (Op.equal t (.agg a) (.agg b)).run P w = .ok r w ∧ P.eqGuardType P.depth t = false

def aggOf (P : Program) (k : TypeId) : Bool := match P.underlying k with
  | some (.struct _) | some (.array _ _) => true
  | _ => false
def KeyOK (P : Program) (k : TypeId) (sh : List Sc) : Prop := WideMaps.KeyLaw P k ∧ ∀ x, fitsK (aggOf P k) sh x = true → okK x → ∃ l, keyOf P k (valK x) = some l
def TK.feqOK (P : Program) (t : TypeId) (sh : List Sc) : TK → Prop
  | .map k _ => KeyOK P k sh
  | _ => FeqOK P t sh
def TK.ok (P : Program) (t : TypeId) : TK → Prop
  | .bool => P.underlying t = some .bool
  | .int k => P.underlying t = some (.int k)
  | .string => P.underlying t = some .string
  | .slice e => P.underlying t = some (.slice e)
  | .array n e => P.underlying t = some (.array n e)
  | .ptr e => P.underlying t = some (.pointer e)
  | .struct fs => ∃ fields, P.underlying t = some (.struct fields) ∧ fields.toList.map (fun f => (f.offset, f.type)) = fs ∧ (fields.toList.mapM (fun f => (P.info? f.type).map fun i => (f.offset, i.size))).isSome = true
  | .iface => ∃ ms, P.underlying t = some (.interface ms)
  | .func => ∃ a b c, P.underlying t = some (.func a b c)
  | .map k e => P.underlying t = some (.map k e)
  | .other => False

def TIok (P : Program) (t : TypeId) (i : TI) : Prop := match i.k with
  | .other => True
  | k => k.ok P t ∧ (∃ info, P.info? t = some info ∧ info.size = i.size ∧ info.bytes = i.bytes ∧ ∃ z, info.zero = some z ∧ ∀ (st : St) (g : Ghost) (n : Nat), VR st g i.zero n z) ∧
      (i.feq ≠ [] → i.k.feqOK P t i.feq)

theorem TIok.of {P : Program} {t : TypeId} {i : TI} (h : TIok P t i) (hk : i.k ≠ .other) : i.k.ok P t ∧ (∃ info, P.info? t = some info ∧ info.size = i.size ∧ info.bytes = i.bytes ∧ ∃ z, info.zero = some z ∧ ∀ (st : St) (g : Ghost) (n : Nat), VR st g i.zero n z) ∧
      (i.feq ≠ [] → i.k.feqOK P t i.feq) := by
  unfold TIok at h
  split at h
  · contradiction
  · exact h

section
variable {P : Program} {t : TypeId} {i : TI} (w : World)

theorem run_ti (h : TIok P t i) (hk : i.k ≠ .other) : ∃ info, (typeInfo t).run P w = .ok info w ∧ info.size = i.size ∧ info.bytes = i.bytes ∧ ∃ z, info.zero = some z ∧ ∀ (st : St) (g : Ghost) (n : Nat), VR st g i.zero n z := by
  obtain ⟨_, ⟨info, h1, h2, h3, h4⟩, _⟩ := h.of hk
  exact ⟨info, by simp [typeInfo, h1], h2, h3, h4⟩
theorem run_size (h : TIok P t i) (hk : i.k ≠ .other) : (sizeOf t).run P w = .ok i.size w := by
  obtain ⟨_, ⟨info, h1, h2, _⟩, _⟩ := h.of hk
  simp [sizeOf, typeInfo, h1, h2]
theorem cellsOf_of (h : TIok P t i) (hk : i.k ≠ .other) : P.cellsOf t = i.size := by
  obtain ⟨_, ⟨info, h1, h2, _⟩, _⟩ := h.of hk
  simp [Program.cellsOf, h1, h2]
theorem run_zero (h : TIok P t i) (hk : i.k ≠ .other) : ∃ z, (zeroValue t).run P w = .ok z w ∧ ∀ (st : St) (g : Ghost) (n : Nat), VR st g i.zero n z := by
  obtain ⟨_, ⟨info, h1, h2, _, z, h4, h5⟩, _⟩ := h.of hk
  exact ⟨z, by simp [zeroValue, typeInfo, h1, h4], h5⟩
theorem run_agg? (h : TIok P t i) (hk : i.k ≠ .other) : (isAgg t).run P w = .ok i.k.isAgg w := by
  obtain ⟨h1, _, _⟩ := h.of hk
  cases hk' : i.k <;> rw [hk'] at h1 <;> simp only [TK.ok] at h1
  case struct fs => obtain ⟨f, h1, _⟩ := h1; simp [isAgg, run_underlying h1, TK.isAgg]
  case iface => obtain ⟨f, h1⟩ := h1; simp [isAgg, run_underlying h1, TK.isAgg]
  case func => obtain ⟨a, b, c, h1⟩ := h1; simp [isAgg, run_underlying h1, TK.isAgg]
  all_goals simp [isAgg, run_underlying h1, TK.isAgg]
end

/-! lists of cells -/
theorem getL_eq : ∀ (xs : List V) (n : Nat), getL xs n = xs[n]?
  | [], n => by cases n <;> simp [getL]
  | x :: xs, 0 => by simp [getL]
  | x :: xs, n + 1 => by simp [getL, getL_eq xs n]
theorem dropL_eq : ∀ (xs : List V) (n : Nat), dropL xs n = xs.drop n
  | xs, 0 => by simp [dropL]
  | [], n + 1 => by simp [dropL]
  | x :: xs, n + 1 => by simp [dropL, dropL_eq xs n]
theorem takeL_eq : ∀ {xs : List V} {n : Nat} {r : List V}, takeL xs n = some r → r = xs.take n ∧ n ≤ xs.length
  | xs, 0, r, h => by simp [takeL] at h; simp [h]
  | [], n + 1, r, h => by simp [takeL] at h
  | x :: xs, n + 1, r, h => by
    simp only [takeL] at h
    split at h
    · rename_i r' hr
      obtain ⟨h1, h2⟩ := takeL_eq hr
      cases h
      subst h1
      exact ⟨by simp, by simpa using h2⟩
    · cases h
/-- some cells laid over others -/
def over {α : Type} (xs : List α) (o : Nat) (ys : List α) : List α := xs.take o ++ ys ++ xs.drop (o + ys.length)
theorem setL_eq : ∀ {xs : List V} {o : Nat} {ys r : List V}, setL xs o ys = some r → r = over xs o ys ∧ (ys = [] ∨ o + ys.length ≤ xs.length)
  | xs, o, [], r, h => by simp [setL] at h; simp [over, h]
  | [], _, _ :: _, r, h => by simp [setL] at h
  | x :: xs, 0, y :: ys, r, h => by
    simp only [setL] at h
    split at h
    · rename_i r' hr
      obtain ⟨h1, h2⟩ := setL_eq hr
      cases h
      subst h1
      refine ⟨by simp [over], .inr ?_⟩
      rcases h2 with rfl | h2
      · simp
      · simpa using h2
    · cases h
  | x :: xs, n + 1, y :: ys, r, h => by
    simp only [setL] at h
    split at h
    · rename_i r' hr
      obtain ⟨h1, h2⟩ := setL_eq hr
      cases h
      subst h1
      refine ⟨?_, .inr ?_⟩
      · simp only [over, List.take_succ_cons, List.cons_append]
        rw [show n + 1 + (y :: ys).length = (n + (y :: ys).length) + 1 by omega, List.drop_succ_cons]
      · rcases h2 with h2 | h2
        · cases h2
        · simp at h2 ⊢; omega
    · cases h

theorem over_length {α : Type} {xs : List α} {o : Nat} {ys : List α} (h : ys = [] ∨ o + ys.length ≤ xs.length) : (over xs o ys).length = xs.length := by
  rcases h with rfl | h
  · simp [over]
  · simp [over]; omega

theorem VRs_over {st : St} {g : Ghost} {n o : Nat} {cs ds : List V} {vs us : List Value} (h : VRs st g cs n vs) (k : VRs st g ds n us) : VRs st g (over cs o ds) n (over vs o us) := by
  unfold over
  rw [← VRs_length k]
  exact VRs_append (VRs_append (VRs_take h) k) (VRs_drop h)

theorem getSg_eq : ∀ {sg : List O} {i : Nat} {o : O}, getSg sg i = o → o ≠ .dead → sg[i]? = some o ∧ i < sg.length
  | [], i, o, h, hn => by simp [getSg] at h; exact absurd h.symm hn
  | p :: ps, 0, o, h, hn => by simp [getSg] at h; simp [h]
  | p :: ps, i + 1, o, h, hn => by
    simp only [getSg] at h
    obtain ⟨h1, h2⟩ := getSg_eq h hn
    exact ⟨by simpa using h1, by simpa using h2⟩
theorem killSg_eq (ks : List Nat) : ∀ sg : List O, killSg ks sg = sg.map (O.kill ks)
  | [] => rfl
  | o :: os => by simp [killSg, killSg_eq ks os]
theorem setSg_eq : ∀ (sg : List O) (i : Nat) (o : O), setSg sg i o = sg.set i o
  | [], i, o => by simp [setSg]
  | p :: ps, 0, o => by simp [setSg]
  | p :: ps, i + 1, o => by simp [setSg, setSg_eq ps i o]
mutual
theorem kill_nil : ∀ (x : V), x.kill [] = x
  | .undef | .int .. | .bool _ | .str _ | .list .. | .nilptr | .box .. | .nilIface | .nilFunc | .nilmap | .ptr .. | .bptr .. | .buf _ | .map _ => by simp [V.kill, memN]
  | .agg cs | .tuple cs => by simp [V.kill, killL_nil cs]
  | .iface t x => by simp [V.kill, kill_nil x]
  | .func f a b => by simp [V.kill, killL_nil a, killL_nil b]
theorem killL_nil : ∀ (x : List V), V.killL [] x = x
  | [] => by simp [V.killL]
  | c :: cs => by simp [V.killL, kill_nil c, killL_nil cs]
end
theorem killO_nil (o : O) : o.kill [] = o := by cases o <;> simp [O.kill, killL_nil, kill_nil]
theorem killIfSg_eq (ks : List Nat) (sg : List O) : killIfSg ks sg = sg.map (O.kill ks) := by
  cases ks with
  | nil => simp only [killIfSg]; rw [show (O.kill []) = id from funext killO_nil]; simp
  | cons k ks => simp [killIfSg, killSg_eq]
theorem addSg_eq (a b : List O) : addSg a b = a ++ b := by cases b <;> simp [addSg]

theorem lk_kill (ks : List Nat) : ∀ (tm : List (Nat × V)) (t : Nat), lk (killTm ks tm) t = (lk tm t).kill ks
  | [], t => by simp [killTm, lk, V.kill]
  | (k, x) :: r, t => by
    simp only [killTm, lk]
    cases Nat.beq k t <;> simp [lk_kill ks r t]
theorem lk_killIf (ks : List Nat) (tm : List (Nat × V)) (t : Nat) : lk (killIfTm ks tm) t = (lk tm t).kill ks := by
  cases ks with
  | nil => simp [killIfTm, kill_nil]
  | cons k ks => simp [killIfTm, lk_kill]

/-! values and cells -/
theorem VR_cells {st : St} {g : Ghost} {x : V} {n : Nat} {v : Value} (h : VR st g x n v) (hu : x.isU = false) : VRs st g x.cells n v.cells.toList := by
  cases x <;> first
    | (simp [V.isU] at hu; done)
    | (simp only [VR] at h
       first
         | (obtain ⟨vs, rfl, h⟩ := h; exact h)
         | (rename_i cs; obtain ⟨vs, rfl, h⟩ := h; simp only [V.cells, Value.cells]; refine VRs_cons ?_ VRs_nil; simp only [VR]; exact ⟨vs, rfl, h⟩))
    | skip
  all_goals (
    have h' := h
    simp only [VR] at h
    first
      | (subst h; simp only [V.cells, Value.cells]; exact VRs_cons h' VRs_nil)
      | (obtain ⟨rfl, _⟩ := h; simp only [V.cells, Value.cells]; exact VRs_cons h' VRs_nil)
      | (obtain ⟨_, _, rfl, _⟩ := h; simp only [V.cells, Value.cells]; exact VRs_cons h' VRs_nil)
      | (obtain ⟨_, _, _, rfl, _⟩ := h; simp only [V.cells, Value.cells]; exact VRs_cons h' VRs_nil)
      | (obtain ⟨_, _, _, rfl⟩ := h; simp only [V.cells, Value.cells]; exact VRs_cons h' VRs_nil)
      | skip)

end Go.VG
