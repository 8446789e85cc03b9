/-
  Parts of a message that is written: plain law, and how they are held.
-/
import Derived.Test.YtgiocgghmlmgfaaDoorPRm
set_option linter.unusedSimpArgs false
set_option linter.unusedVariables false
set_option maxHeartbeats 4000000
namespace Go.Proofs.YtgiocgghmlmgfaaDoor
open Go Go.VG
set_option maxRecDepth 100000
/-- a part: a field, or a message of fields within the message -/
structure Pt where
  sub : Bool
  f : Pf
  fs : List Pf
instance : Inhabited Pt := ⟨⟨false, default, []⟩⟩
/-- the field that a part is read as -/
def Pt.fld (p : Pt) : Pf := if p.sub = true then ⟨p.f.no, 2, 0, fldsB p.fs⟩ else p.f
def eFs (fs : List Pf) : List V := fs.map fun f => .iface 76 (ePf f)
def ePt (p : Pt) : V := if p.sub = true then .iface 63 (.agg [.int .i64 p.f.no, .int .i64 2, .box [.list false 1 (eFs p.fs), .int .i64 (fldsB p.fs).length] 0, .int .i64 (fldsB p.fs).length]) else .iface 76 (ePf p.f)
def msgB (l : List Pt) : List UInt8 := fldsB (l.map Pt.fld)
/-- a message that is written -/
abbrev eMs (l : List Pt) : List O := [.cells [.buf 1, .int .i64 (msgB l).length], .buf 1 0 (l.map ePt)]
theorem keep_fld {f : Pf} (h : 0 ≤ f.num) : fldB (keepF f) = fldB f := by
  obtain ⟨no, wi, num, text⟩ := f
  unfold fldB conB keepF
  dsimp only
  by_cases h2 : wi = 2
  · subst h2; rfl
  · rw [if_neg h2, if_neg h2]
    by_cases h5 : wi = 5
    · subst h5
      have e : (num % 4294967296).toNat = num.toNat % 256 ^ 4 := by
        have h : 0 ≤ num := h
        rw [show 256 ^ 4 = 4294967296 by decide]; omega
      have e2 : low 4 (num % 4294967296).toNat = low 4 num.toNat := by rw [e, low_mod]
      show (if mayT no 5 = true then tagB no 5 ++ low 4 (num % 4294967296).toNat else []) = if mayT no 5 = true then tagB no 5 ++ low 4 num.toNat else []
      rw [e2]
    · rw [if_neg h5]
      by_cases h1 : wi = 1
      · subst h1; rfl
      · simp only [if_neg h1, if_neg h5, if_neg h2]
theorem keep_flds {l : List Pf} (h : ∀ f ∈ l, okF f) : fldsB (l.map keepF) = fldsB l := by
  unfold fldsB
  rw [List.map_map]
  congr 1
  exact List.map_congr_left fun f hf => keep_fld (h f hf).2.1.1
theorem msgB_snoc (l : List Pt) (p : Pt) : msgB (l ++ [p]) = msgB l ++ fldB p.fld := by
  simp [msgB, fldsB]
/-- what was written is read, and laid again -/
theorem msg_back (l : List Pt) (h : ∀ p ∈ l, okF p.fld) : aFine (msgB l) = 0 ∧ fldsB (aFds (msgB l)) = msgB l := by
  have ho : ∀ f ∈ l.map Pt.fld, okF f := fun f hf => by
    obtain ⟨p, hp, rfl⟩ := List.mem_map.1 hf
    exact h p hp
  have := all_flds (l.map Pt.fld) ho
  refine ⟨this.1, ?_⟩
  have e : aFds (msgB l) = _ := this.2
  rw [e, keep_flds ho]; rfl
end Go.Proofs.YtgiocgghmlmgfaaDoor
