/-
  The objects of a symbolic run, the relation between them and a world, and its steps.
-/
import Derived.Test.YtbeejnmeakcpjaaDoorVgA
set_option linter.unusedSimpArgs false
set_option linter.unusedVariables false
namespace Go.VG
open Go

def keq : IntKind → IntKind → Bool
  | .i8, .i8 | .i16, .i16 | .i32, .i32 | .i64, .i64 | .u8, .u8 | .u16, .u16 | .u32, .u32 | .u64, .u64 => true
  | _, _ => false

/-- a scalar's kind, as a part of what can be compared -/
inductive Sc where
  | kB | kI (k : IntKind) | kS
def fits1 : Sc → V → Bool
  | .kB, .bool _ => true
  | .kI k, .int k' _ => keq k k'
  | .kS, .str _ => true
  | _, _ => false
def fitsL : List Sc → List V → Bool
  | [], [] => true
  | k :: ks, x :: xs => fits1 k x && fitsL ks xs
  | _, _ => false
/-! maps from scalars, and from structs of such, to whole numbers -/
def fitsK (ag : Bool) (sh : List Sc) : V → Bool
  | .agg cs => cond ag (fitsL sh cs) false
  | x => cond ag false (fitsL sh [x])
def keq1 : V → V → Bool
  | .int _ a, .int _ b => a == b
  | .str a, .str b => a == b
  | .bool a, .bool b => a == b
  | _, _ => false
def keqs : List V → List V → Bool
  | [], [] => true
  | x :: xs, y :: ys => keq1 x y && keqs xs ys
  | _, _ => false
def keyEq : V → V → Bool
  | .agg a, .agg b => keqs a b
  | x, y => keq1 x y
/-- where a key is, and what stands there -/
def fndM : List (V × Int) → V → Option (Nat × Int)
  | [], _ => none
  | (y, q) :: es, x => cond (keyEq y x) (some (0, q)) (match fndM es x with
    | some (j, q) => some (j + 1, q)
    | none => none)
def getM (es : List (V × Int)) (x : V) : Int := match fndM es x with
  | some (_, q) => q
  | none => 0
def setM : List (V × Int) → Nat → Int → List (V × Int)
  | [], _, _ => []
  | (y, _) :: es, 0, q => (y, q) :: es
  | e :: es, n + 1, q => e :: setM es n q
def val1 : V → Value
  | .int k n => .int k n
  | .bool b => .bool b
  | .str s => .string ⟨s.toArray⟩
  | _ => .nilIface
def ok1 : V → Prop
  | .int k n => k.min ≤ n ∧ n ≤ k.max
  | .str s => s.length ≤ maxLen
  | _ => True
def valK : V → Value
  | .agg cs => .agg (cs.map val1).toArray
  | x => val1 x
def okK : V → Prop
  | .agg cs => ∀ c ∈ cs, ok1 c
  | x => ok1 x
def EntR (ag : Bool) (sh : List Sc) : List (V × Int) → List Nat → List MapEntry → Prop
  | [], [], [] => True
  | (x, q) :: es, s :: bs, e :: l => (fitsK ag sh x = true ∧ okK x ∧ e.key = valK x ∧ e.val = .int .i64 q ∧ (IntKind.i64.min ≤ q ∧ q ≤ IntKind.i64.max) ∧ e.born = s) ∧ EntR ag sh es bs l
  | _, _, _ => False
def StampOK (bs : List Nat) (ck : Nat) : Prop := bs.Nodup ∧ ∀ s ∈ bs, s < ck
def leftIx (bs : List Nat) (seen : Array Nat) : List Nat := (List.range bs.length).filter fun j => !(seen.toList.contains (bs.getD j 0))

inductive O where
  | dead
  | cells (cs : List V)
  | buf (sz pre : Nat) (l : List V)
  | siter (s : List UInt8) (pos : Nat)
  | map (ag : Bool) (sh : List Sc) (es : List (V × Int)) (bs : List Nat) (ck : Nat)
  | miter (m : V) (bs : List Nat) (ck : Nat) (left : List Nat) (last : Nat)
instance : Inhabited O := ⟨.dead⟩

def O.has (i : Nat) : O → Bool
  | .cells cs => V.hasL i cs
  | .miter m _ _ _ _ => m.has i
  | _ => false
def O.isWs (m : Nat) : O → Bool
  | .cells cs => V.scopedL m cs
  | .miter x _ _ _ _ => x.isWs m
  | _ => true
def O.kill (ks : List Nat) : O → O
  | .cells cs => .cells (V.killL ks cs)
  | .dead => .dead | .buf a b l => .buf a b l | .siter s p => .siter s p | .map a sh es bs ck => .map a sh es bs ck
  | .miter m bs ck l x => .miter (m.kill ks) bs ck l x

structure Env where
  G : Nat → Prop
  w0 : World
  st0 : St
  ds : List Deferred

def ffree (c : Array Value) (fr : Nat × Nat) : Prop := fr.1 ≤ fr.2 ∧ ∀ o, o < c.size → ¬ (fr.1 ≤ o ∧ o < fr.2)

def ObjR (E : Env) (st : St) (g : Ghost) (n : Nat) (w : World) (gi : Gh) : O → Prop
  | .dead => ∀ b, gi.blk = some b → b < w.heap.size ∧ E.G b
  | .cells cs => ∃ b c el fr, gi.blk = some b ∧ E.G b ∧ w.heap[b]? = some (.cells c el fr) ∧ VRs st g cs n c.toList ∧ ffree c fr ∧ ∀ o, st b o = none
  | .buf sz pre l => 0 < sz ∧ gi.sz = sz ∧ pre ≤ l.length ∧ l.length ≤ maxLen ∧ gi.len = l.length ∧ l.length ≤ gi.cap ∧
      ((gi.cap = 0 ∧ gi.blk = none) ∨ ∃ b c el fr, gi.blk = some b ∧ gi.base = some ⟨b, 0, none⟩ ∧ E.G b ∧ w.heap[b]? = some (.cells c el fr) ∧ c.size = gi.cap * sz ∧
        VRrow st g l sz (fun o => c[o]?) 0 ∧ ffree c fr ∧ ∀ o v, st b o = some v → o < pre * sz)
  | .siter s pos => s.length ≤ maxLen ∧ ∃ b, gi.blk = some b ∧ E.G b ∧ w.heap[b]? = some (.stringIter ⟨s.toArray⟩ pos)
  | .map ag sh es bs ck => ∃ b arr, gi.blk = some b ∧ E.G b ∧ w.heap[b]? = some (.map arr ck) ∧ EntR ag sh es bs arr.toList ∧ StampOK bs ck ∧ (es.map fun e => valK e.1).Nodup
  | .miter m bs ck left last => ∃ b b' seen, gi.blk = some b ∧ E.G b ∧ w.heap[b]? = some (.mapIter (some b') ck seen ck) ∧ VR st g m n (.map (some b')) ∧ left = leftIx bs seen ∧
      ((seen = #[] ∧ bs.length ≤ last) ∨ (seen.back? = some (bs.getD last 0) ∧ last < bs.length))

structure WRel (E : Env) (st : St) (g : Ghost) (sg : List O) (w : World) : Prop where
  os : w.os = E.w0.os
  tape : w.tape = E.w0.tape
  output : w.output = E.w0.output
  size : E.w0.heap.size ≤ w.heap.size
  gnew : ∀ b, E.w0.heap.size ≤ b → E.G b
  sub : ∀ b o v, E.st0 b o = some v → st b o = some v
  stG : ∀ b o v, st b o = some v → E.st0 b o = some v ∨ E.G b
  stw : ∀ b o v, st b o = some v → w.cell? ⟨b, o, none⟩ = some v
  fr : ∀ b, ¬ E.G b → w.heap[b]? = E.w0.heap[b]?
  ob : ∀ i o, sg[i]? = some o → ObjR E st g sg.length w (g i) o
  inj : ∀ i j b, i < sg.length → j < sg.length → (g i).blk = some b → (g j).blk = some b → i = j

theorem cell?_congr {w w' : World} {b o : Nat} (h : w'.heap[b]? = w.heap[b]?) : w'.cell? ⟨b, o, none⟩ = w.cell? ⟨b, o, none⟩ := by
  simp only [World.cell?, h]

theorem cell?_of {w : World} {b o : Nat} {c : Array Value} {el : TypeId} {fr : Nat × Nat} (h : w.heap[b]? = some (.cells c el fr)) : w.cell? ⟨b, o, none⟩ = c[o]? := by
  simp [World.cell?, h]

theorem frozen?_of {w : World} {b o : Nat} {c : Array Value} {el : TypeId} {fr : Nat × Nat} (h : w.heap[b]? = some (.cells c el fr)) (hf : ffree c fr) (ho : o < c.size) : w.frozen? ⟨b, o, none⟩ = false := by
  have := hf.2 o ho
  obtain ⟨lo, hi⟩ := fr
  simp only [World.frozen?, h]
  simp only [Bool.and_eq_false_iff, decide_eq_false_iff_not]
  simp only at this
  omega

theorem block_lt {w : World} {b : Nat} {o : Obj} (h : w.heap[b]? = some o) : b < w.heap.size := by
  rcases Nat.lt_or_ge b w.heap.size with h' | h'
  · exact h'
  · simp [Array.getElem?_eq_none h'] at h

theorem ObjR.blk_lt {E : Env} {st : St} {g : Ghost} {n : Nat} {w : World} {gi : Gh} {o : O} (h : ObjR E st g n w gi o) {b : Nat} (hb : gi.blk = some b) : b < w.heap.size ∧ E.G b := by
  cases o with
  | dead => exact h b hb
  | cells cs =>
    obtain ⟨b', c, el, fr, h1, h2, h3, _⟩ := h
    rw [hb] at h1; cases h1
    exact ⟨block_lt h3, h2⟩
  | buf sz pre l =>
    obtain ⟨_, _, _, _, _, _, h⟩ := h
    rcases h with ⟨_, h⟩ | ⟨b', c, el, fr, h1, _, h2, h3, _⟩
    · rw [hb] at h; cases h
    · rw [hb] at h1; cases h1
      exact ⟨block_lt h3, h2⟩
  | siter s p =>
    obtain ⟨_, b', h1, h2, h3⟩ := h
    rw [hb] at h1; cases h1
    exact ⟨block_lt h3, h2⟩
  | map ag sh es bs ck =>
    obtain ⟨b', arr, h1, h2, h3, _⟩ := h
    rw [hb] at h1; cases h1
    exact ⟨block_lt h3, h2⟩
  | miter m bs ck l x =>
    obtain ⟨b', _, _, h1, h2, h3, _⟩ := h
    rw [hb] at h1; cases h1
    exact ⟨block_lt h3, h2⟩

theorem WRel.blk_lt {E : Env} {st : St} {g : Ghost} {sg : List O} {w : World} (h : WRel E st g sg w) {i b : Nat} (hi : i < sg.length) (hb : (g i).blk = some b) : b < w.heap.size ∧ E.G b :=
  (h.ob i _ (List.getElem?_eq_getElem hi)).blk_lt hb

theorem ObjR.keep {E : Env} {st st' : St} {g g' : Ghost} {n n' : Nat} {w w' : World} {gi : Gh} {o : O} (h : ObjR E st g n w gi o)
    (hb : ∀ b, gi.blk = some b → w'.heap[b]? = w.heap[b]?)
    (hst : ∀ b o v, st b o = some v → st' b o = some v)
    (hnew : ∀ b, gi.blk = some b → ∀ o v, st' b o = some v → st b o = some v)
    (hn : ∀ i, o.has i = true → i < n → i < n' ∧ g' i = g i) : ObjR E st' g' n' w' gi o := by
  cases o with
  | dead =>
    intro b hb'
    obtain ⟨h1, h2⟩ := h b hb'
    refine ⟨?_, h2⟩
    have h3 := hb b hb'
    rw [Array.getElem?_eq_getElem h1] at h3
    exact block_lt h3
  | cells cs =>
    obtain ⟨b, c, el, fr, h1, h2, h3, h4, h5, h6⟩ := h
    refine ⟨b, c, el, fr, h1, h2, by rw [hb b h1]; exact h3, VRs_map hst (fun i hi => hn i (by simpa [O.has] using hi)) h4, h5, fun o => ?_⟩
    cases hs : st' b o with
    | none => rfl
    | some v => have := hnew b h1 o v hs; rw [h6 o] at this; cases this
  | buf sz pre l =>
    obtain ⟨h1, h2, h3, h4, h5, h6, h7⟩ := h
    refine ⟨h1, h2, h3, h4, h5, h6, ?_⟩
    rcases h7 with h7 | ⟨b, c, el, fr, k1, k2, k3, k4, k5, k6, k7, k8⟩
    · exact .inl h7
    · exact .inr ⟨b, c, el, fr, k1, k2, k3, by rw [hb b k1]; exact k4, k5, VRrow_map hst (fun _ _ hk => hk) k6, k7, fun o v hv => k8 o v (hnew b k1 o v hv)⟩
  | siter s p =>
    obtain ⟨h1, b, h2, h3, h4⟩ := h
    exact ⟨h1, b, h2, h3, by rw [hb b h2]; exact h4⟩
  | map ag sh es bs ck =>
    obtain ⟨b, arr, h1, h2, h3, h4⟩ := h
    exact ⟨b, arr, h1, h2, by rw [hb b h1]; exact h3, h4⟩
  | miter m bs ck l x =>
    obtain ⟨b, b', seen, h1, h2, h3, h4, h5⟩ := h
    exact ⟨b, b', seen, h1, h2, by rw [hb b h1]; exact h3, VR_map hst (fun i hi => hn i (by simpa [O.has] using hi)) h4, h5⟩

theorem ObjR.kill {E : Env} {st : St} {g : Ghost} {n : Nat} {w : World} {gi : Gh} {o : O} {ks : List Nat} (h : ObjR E st g n w gi o) : ObjR E st g n w gi (o.kill ks) := by
  cases o with
  | cells cs =>
    obtain ⟨b, c, el, fr, h1, h2, h3, h4, h5, h6⟩ := h
    exact ⟨b, c, el, fr, h1, h2, h3, VRs_kill h4, h5, h6⟩
  | miter m bs ck l x =>
    obtain ⟨b, b', seen, h1, h2, h3, h4, h5⟩ := h
    exact ⟨b, b', seen, h1, h2, h3, VR_kill h4, h5⟩
  | _ => exact h

theorem O.has_kill {ks : List Nat} {o : O} {i : Nat} (h : (o.kill ks).has i = true) : memN i ks = false ∧ o.has i = true := by
  cases o with
  | cells cs => exact hasL_kill (by simpa [O.kill, O.has] using h)
  | miter m bs ck l x => exact VG.has_kill (by simpa [O.kill, O.has] using h)
  | _ => simp [O.kill, O.has] at h

/-- a step of the world: what has turned lies in the blocks of `B` -/
structure Chg (E : Env) (st st' : St) (w w' : World) (B : Nat → Prop) : Prop where
  os : w'.os = w.os
  tape : w'.tape = w.tape
  output : w'.output = w.output
  size : w.heap.size ≤ w'.heap.size
  keep : ∀ b, b < w.heap.size → ¬ B b → w'.heap[b]? = w.heap[b]?
  own : ∀ b, B b → E.G b
  mono : ∀ b o v, st b o = some v → st' b o = some v
  newst : ∀ b o v, st' b o = some v → st b o = some v ∨ (E.G b ∧ w'.cell? ⟨b, o, none⟩ = some v)
  oldst : ∀ b o v, B b → st b o = some v → w'.cell? ⟨b, o, none⟩ = some v

theorem cell?_lt {w : World} {b o : Nat} {v : Value} (h : w.cell? ⟨b, o, none⟩ = some v) : b < w.heap.size := by
  rcases Nat.lt_or_ge b w.heap.size with h' | h'
  · exact h'
  · simp [World.cell?, Array.getElem?_eq_none h'] at h

theorem WRel.step {E : Env} {st st' : St} {g g' : Ghost} {sg sg' : List O} {w w' : World} {B : Nat → Prop} (h : WRel E st g sg w) (c : Chg E st st' w w' B)
    (ob : ∀ i o, sg'[i]? = some o → ObjR E st' g' sg'.length w' (g' i) o)
    (inj : ∀ i j b, i < sg'.length → j < sg'.length → (g' i).blk = some b → (g' j).blk = some b → i = j) : WRel E st' g' sg' w' where
  os := c.os.trans h.os
  tape := c.tape.trans h.tape
  output := c.output.trans h.output
  size := Nat.le_trans h.size c.size
  gnew := h.gnew
  sub := fun b o v hv => c.mono _ _ _ (h.sub _ _ _ hv)
  stG := fun b o v hv => by
    rcases c.newst _ _ _ hv with h1 | h1
    · exact h.stG _ _ _ h1
    · exact .inr h1.1
  stw := fun b o v hv => by
    rcases c.newst _ _ _ hv with h1 | h1
    · by_cases hB : B b
      · exact c.oldst _ _ _ hB h1
      · have h2 := h.stw _ _ _ h1
        rw [cell?_congr (c.keep b (cell?_lt h2) hB)]; exact h2
    · exact h1.2
  fr := fun b hb => by
    have hlt : b < E.w0.heap.size := by
      rcases Nat.lt_or_ge b E.w0.heap.size with h' | h'
      · exact h'
      · exact absurd (h.gnew b h') hb
    rw [c.keep b (Nat.lt_of_lt_of_le hlt h.size) (fun hB => hb (c.own b hB))]
    exact h.fr b hb
  ob := ob
  inj := inj

def upd (g : Ghost) (i : Nat) (x : Gh) : Ghost := fun j => if j = i then x else g j
@[simp] theorem upd_same (g : Ghost) (i : Nat) (x : Gh) : upd g i x i = x := by simp [upd]
theorem upd_other {g : Ghost} {i j : Nat} {x : Gh} (h : j ≠ i) : upd g i x j = g j := by simp [upd, h]

/-- a world that parts in nothing that counts -/
structure SameW (w w' : World) : Prop where
  heap : w'.heap = w.heap
  os : w'.os = w.os
  tape : w'.tape = w.tape
  output : w'.output = w.output
theorem SameW.refl (w : World) : SameW w w := ⟨rfl, rfl, rfl, rfl⟩

theorem Chg.same {E : Env} {st : St} {w w' : World} (h : SameW w w') : Chg E st st w w' (fun _ => False) where
  os := h.os
  tape := h.tape
  output := h.output
  size := by rw [h.heap]; exact Nat.le_refl _
  keep := fun b _ _ => by rw [h.heap]
  own := fun _ hb => hb.elim
  mono := fun _ _ _ hv => hv
  newst := fun _ _ _ hv => .inl hv
  oldst := fun _ _ _ hb => hb.elim

theorem ObjR.same {E : Env} {st : St} {g : Ghost} {n : Nat} {w w' : World} {gi : Gh} {o : O} (h : ObjR E st g n w gi o) (hw : SameW w w') : ObjR E st g n w' gi o :=
  h.keep (fun b _ => by rw [hw.heap]) (fun _ _ _ hv => hv) (fun _ _ _ _ hv => hv) (fun _ _ hi => ⟨hi, rfl⟩)

theorem WRel.same {E : Env} {st : St} {g : Ghost} {sg : List O} {w w' : World} (h : WRel E st g sg w) (hw : SameW w w') : WRel E st g sg w' :=
  h.step (Chg.same hw) (fun i o ho => (h.ob i o ho).same hw) h.inj

theorem heap_alloc_lt {w : World} {o : Obj} {b : Nat} (h : b < w.heap.size) : (w.alloc o).heap[b]? = w.heap[b]? := by
  simp only [World.alloc, Array.getElem?_push]
  rw [if_neg (by omega)]
theorem heap_alloc_new {w : World} {o : Obj} : (w.alloc o).heap[w.heap.size]? = some o := by
  show (w.heap.push o)[w.heap.size]? = some o
  simp

/-- a new block -/
theorem Chg.alloc {E : Env} {st : St} {w : World} (o : Obj) : Chg E st st w (w.alloc o) (fun _ => False) where
  os := rfl
  tape := rfl
  output := rfl
  size := by simp
  keep := fun b hb _ => heap_alloc_lt hb
  own := fun _ hb => hb.elim
  mono := fun _ _ _ hv => hv
  newst := fun _ _ _ hv => .inl hv
  oldst := fun _ _ _ hb => hb.elim

/-- a new block whose first k cells are steady from now on -/
def addSt (st : St) (b : Nat) (c : Array Value) (k : Nat) : St := fun b' o => if b' = b then (if o < k then c[o]? else none) else st b' o

theorem WRel.st_new {E : Env} {st : St} {g : Ghost} {sg : List O} {w : World} (h : WRel E st g sg w) (o : Nat) : st w.heap.size o = none := by
  cases hs : st w.heap.size o with
  | none => rfl
  | some v => exact absurd (cell?_lt (h.stw _ _ _ hs)) (Nat.lt_irrefl _)

theorem addSt_mono {st : St} {b : Nat} {c : Array Value} {k : Nat} (h : ∀ o, st b o = none) : ∀ b' o v, st b' o = some v → addSt st b c k b' o = some v := by
  intro b' o v hv
  by_cases hb : b' = b
  · subst hb; rw [h o] at hv; cases hv
  · simp [addSt, hb, hv]

theorem Chg.addSt {E : Env} {st : St} {g : Ghost} {sg : List O} {w : World} (h : WRel E st g sg w) (c : Array Value) (el : TypeId) (fr : Nat × Nat) (k : Nat) :
    Chg E st (addSt st w.heap.size c k) w (w.alloc (.cells c el fr)) (fun _ => False) where
  os := rfl
  tape := rfl
  output := rfl
  size := by simp
  keep := fun b hb _ => heap_alloc_lt hb
  own := fun _ hb => hb.elim
  mono := addSt_mono h.st_new
  newst := fun b o v hv => by
    by_cases hb : b = w.heap.size
    · subst hb
      simp only [VG.addSt, if_true] at hv
      split at hv
      · exact .inr ⟨h.gnew _ h.size, by rw [cell?_of heap_alloc_new]; exact hv⟩
      · cases hv
    · simp [VG.addSt, hb] at hv; exact .inl hv
  oldst := fun _ _ _ hb => hb.elim

theorem WRel.allocSt {E : Env} {st : St} {g : Ghost} {sg : List O} {w : World} (h : WRel E st g sg w) (c : Array Value) (el : TypeId) (fr : Nat × Nat) (k : Nat) :
    WRel E (addSt st w.heap.size c k) g sg (w.alloc (.cells c el fr)) :=
  h.step (Chg.addSt h c el fr k) (fun i o ho => (h.ob i o ho).keep
    (fun b hb => heap_alloc_lt ((h.ob i o ho).blk_lt hb).1) (addSt_mono h.st_new)
    (fun b hb o' v hv => by
      have := ((h.ob i o ho).blk_lt hb).1
      simpa [addSt, Nat.ne_of_lt this] using hv)
    (fun _ _ hi => ⟨hi, rfl⟩)) h.inj

/-- a new object -/
theorem WRel.allocObj {E : Env} {st : St} {g : Ghost} {sg : List O} {w : World} (h : WRel E st g sg w) (ob : Obj) (gi : Gh) (o : O)
    (hb : ∀ b, gi.blk = some b → b = w.heap.size)
    (ho : ObjR E st (upd g sg.length gi) (sg.length + 1) (w.alloc ob) gi o) :
    WRel E st (upd g sg.length gi) (sg ++ [o]) (w.alloc ob) := by
  refine h.step (Chg.alloc ob) ?_ ?_
  · intro i o' hi
    rw [List.length_append, List.length_singleton]
    rcases Nat.lt_trichotomy i sg.length with hlt | heq | hgt
    · rw [List.getElem?_append_left hlt] at hi
      rw [upd_other (Nat.ne_of_lt hlt)]
      exact (h.ob i o' hi).keep (fun b hb => heap_alloc_lt ((h.ob i o' hi).blk_lt hb).1) (fun _ _ _ hv => hv) (fun _ _ _ _ hv => hv)
        (fun j _ hj => ⟨by omega, upd_other (Nat.ne_of_lt hj)⟩)
    · subst heq
      rw [List.getElem?_append_right (Nat.le_refl _)] at hi
      simp at hi; subst hi
      rw [upd_same]; exact ho
    · rw [List.getElem?_eq_none (by simp; omega)] at hi; cases hi
  · intro i j b hi hj h1 h2
    rw [List.length_append, List.length_singleton] at hi hj
    by_cases e1 : i = sg.length <;> by_cases e2 : j = sg.length
    · omega
    · subst e1
      rw [upd_same] at h1; rw [upd_other e2] at h2
      have := (h.blk_lt (by omega) h2).1; have := hb b h1; omega
    · subst e2
      rw [upd_same] at h2; rw [upd_other e1] at h1
      have := (h.blk_lt (by omega) h1).1; have := hb b h2; omega
    · rw [upd_other e1] at h1; rw [upd_other e2] at h2
      exact h.inj i j b (by omega) (by omega) h1 h2

/-- object i is turned; whoever named it before may be struck -/
theorem WRel.turn {E : Env} {st st' : St} {g : Ghost} {sg : List O} {w w' : World} (h : WRel E st g sg w) (i : Nat) (hi : i < sg.length) (ks : List Nat) (gi : Gh) (o : O)
    (c : Chg E st st' w w' (fun b => (g i).blk = some b))
    (hks : gi = g i ∨ memN i ks = true)
    (hblk : ∀ b, gi.blk = some b → (g i).blk = some b ∨ b = w.heap.size)
    (hnew : ∀ j b, j < sg.length → j ≠ i → (g j).blk = some b → ∀ o v, st' b o = some v → st b o = some v)
    (ho : ObjR E st' (upd g i gi) sg.length w' gi o) :
    WRel E st' (upd g i gi) ((sg.map (O.kill ks)).set i o) w' := by
  have hlen : ((sg.map (O.kill ks)).set i o).length = sg.length := by simp
  refine h.step c ?_ ?_
  · intro j o' hj
    rw [hlen]
    by_cases e : j = i
    · subst e
      rw [List.getElem?_set_self (by simpa using hi)] at hj
      cases hj
      rw [upd_same]; exact ho
    · rw [List.getElem?_set_ne (Ne.symm e), List.getElem?_map] at hj
      cases hs : sg[j]? with
      | none => rw [hs] at hj; cases hj
      | some o₀ =>
        rw [hs] at hj; cases hj
        have hjl : j < sg.length := by
          rcases Nat.lt_or_ge j sg.length with h' | h'
          · exact h'
          · simp [List.getElem?_eq_none h'] at hs
        rw [upd_other e]
        have h0 := h.ob j o₀ hs
        refine (h0.kill (ks := ks)).keep (fun b hb => ?_) c.mono (fun b hb => hnew j b hjl e hb) (fun k hk hkn => ⟨hkn, ?_⟩)
        · exact c.keep b (h0.blk_lt hb).1 (fun hB => e (h.inj j i b hjl hi hb hB))
        · by_cases ek : k = i
          · subst ek
            rw [upd_same]
            rcases hks with hks | hks
            · exact hks
            · have := (O.has_kill hk).1; rw [hks] at this; cases this
          · exact upd_other ek
  · intro j k b hj hk h1 h2
    rw [hlen] at hj hk
    by_cases e1 : j = i <;> by_cases e2 : k = i
    · omega
    · subst e1
      rw [upd_same] at h1; rw [upd_other e2] at h2
      rcases hblk b h1 with h3 | h3
      · exact h.inj j k b hj hk h3 h2
      · have := (h.blk_lt hk h2).1; omega
    · subst e2
      rw [upd_same] at h2; rw [upd_other e1] at h1
      rcases hblk b h2 with h3 | h3
      · exact h.inj j k b hj hk h1 h3
      · have := (h.blk_lt hj h1).1; omega
    · rw [upd_other e1] at h1; rw [upd_other e2] at h2
      exact h.inj j k b hj hk h1 h2

/-- whoever named i may be struck anywhere -/
theorem WRel.kill {E : Env} {st : St} {g : Ghost} {sg : List O} {w : World} (h : WRel E st g sg w) (ks : List Nat) : WRel E st g (sg.map (O.kill ks)) w := by
  refine h.step (Chg.same (SameW.refl w)) (fun i o ho => ?_) (by simpa using h.inj)
  rw [List.getElem?_map] at ho
  cases hs : sg[i]? with
  | none => rw [hs] at ho; cases ho
  | some o₀ => rw [hs] at ho; cases ho; simpa using (h.ob i o₀ hs).kill

/-- the last objects are forgotten, and any other may be -/
def subSg : List O → List O → Nat → Prop
  | _, [], _ => True
  | [], _ :: _, _ => False
  | _ :: os, .dead :: ps, n => subSg os ps n
  | o :: os, p :: ps, n => (o = p ∧ p.isWs n = true) ∧ subSg os ps n

theorem subSg_get : ∀ {os ps : List O} {n i : Nat} {p : O}, subSg os ps n → ps[i]? = some p → ∃ o, os[i]? = some o ∧ (p = .dead ∨ (o = p ∧ p.isWs n = true))
  | _, [], _, _, _, _, h => by simp at h
  | [], _ :: _, _, _, _, h, _ => by simp [subSg] at h
  | o :: os, q :: ps, n, i, p, h, hp => by
    cases i with
    | zero =>
      simp at hp; subst hp
      refine ⟨o, rfl, ?_⟩
      cases q <;> first | exact .inl rfl | (simp only [subSg] at h; exact .inr h.1)
    | succ i =>
      have h' : subSg os ps n := by cases q <;> simp only [subSg] at h <;> first | exact h | exact h.2
      obtain ⟨o', h1, h2⟩ := subSg_get h' (by simpa using hp)
      exact ⟨o', by simpa using h1, h2⟩

theorem subSg_length : ∀ {os ps : List O} {n : Nat}, subSg os ps n → ps.length ≤ os.length
  | _, [], _, _ => by simp
  | [], _ :: _, _, h => by simp [subSg] at h
  | o :: os, q :: ps, n, h => by
    have h' : subSg os ps n := by cases q <;> simp only [subSg] at h <;> first | exact h | exact h.2
    have := subSg_length h'
    simp; omega

theorem scoped_has {n : Nat} {p : O} (h : p.isWs n = true) {i : Nat} (hi : p.has i = true) : i < n := by
  cases p with
  | cells cs => exact hasL_lt (by simpa [O.isWs] using h) (by simpa [O.has] using hi)
  | miter m bs ck l x => exact has_lt (by simpa [O.isWs] using h) (by simpa [O.has] using hi)
  | _ => simp [O.has] at hi

theorem WRel.sub' {E : Env} {st : St} {g : Ghost} {sg ps : List O} {w : World} (h : WRel E st g sg w) (hs : subSg sg ps ps.length) : WRel E st g ps w := by
  have hl := subSg_length hs
  refine h.step (Chg.same (SameW.refl w)) (fun i p hp => ?_) (fun i j b hi hj => h.inj i j b (by omega) (by omega))
  obtain ⟨o, ho, hd⟩ := subSg_get hs hp
  have h0 := h.ob i o ho
  rcases hd with rfl | ⟨rfl, hsc⟩
  · intro b hb; exact h0.blk_lt hb
  · exact h0.keep (fun _ _ => rfl) (fun _ _ _ hv => hv) (fun _ _ _ _ hv => hv) (fun k hk _ => ⟨scoped_has hsc hk, rfl⟩)

end Go.VG
