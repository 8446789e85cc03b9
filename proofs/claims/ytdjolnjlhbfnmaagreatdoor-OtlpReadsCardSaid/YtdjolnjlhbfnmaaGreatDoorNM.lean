/-
  A part of the proof.
-/
import Derived.Test.YtdjolnjlhbfnmaaGreatDoorNL
set_option linter.unusedSimpArgs false
set_option linter.unusedVariables false
set_option maxHeartbeats 4000000
namespace Go.Proofs.YtdjolnjlhbfnmaaGreatDoor
open Go Go.VG
set_option maxRecDepth 100000
theorem GV (x : List UInt8) : bd (bL x).2.attrs ≤ x.length := by
 unfold bL
 split
 . exact Nat.zero_le _
 . exact tC 3 x
theorem MA (x : List UInt8) : bd (cM x).2.attrs ≤ x.length := by
 unfold cM
 split
 . exact Nat.zero_le _
 split
 . exact Nat.zero_le _
 . exact tC 4 x
theorem qC : ko default := ⟨by decide, fun _ h => (nomatch h), fun _ h => (nomatch h), by decide, by decide⟩
theorem OY {x : List UInt8} (h : x.length ≤ 9000) : ko (bF x).2 := by
 have he := fJ (no := 11) (s := x)
 have hk := fJ (no := 13) (s := x)
 unfold bF
 split
 . exact qC
 split
 . exact qC
 split
 . exact qC
 split
 . exact qC
 split
 . exact qC
 split
 . exact qC
 . refine ⟨?_, ?_, ?_, ?_, ?_⟩
   . show bd (bI 9 x).2 < _
     have := tC 9 x
     omega
   . show ∀ e ∈ (aC bL (ai 11 x) []).2, bd e.attrs < 100000
     exact qo (Q := fun e : Ev => bd e.attrs < 100000) _ _ (fun y hy => by have := GV y; have := he.2 y hy; omega) (fun _ q => (nomatch q))
   . show ∀ e ∈ (aC cM (ai 13 x) []).2, bd e.attrs < 100000
     exact qo (Q := fun e : Lk => bd e.attrs < 100000) _ _ (fun y hy => by have := MA y; have := hk.2 y hy; omega) (fun _ q => (nomatch q))
   . show (aC bL (ai 11 x) []).2.length ≤ _
     have := qp bL (ai 11 x) []
     rw [List.length_nil] at this
     omega
   . show (aC cM (ai 13 x) []).2.length ≤ _
     have := qp cM (ai 13 x) []
     rw [List.length_nil] at this
     omega
theorem OD {x : List UInt8} (h : x.length ≤ 9000) : j5 (ct x).2 := by
 have hd : j5 default := ⟨by decide, fun _ h => (nomatch h)⟩
 have he := fJ (no := 2) (s := x)
 unfold ct
 split
 . exact hd
 split
 . exact hd
 split
 . exact hd
 . refine ⟨?_, ?_⟩
   . show (aC bF (ai 2 x) []).2.length ≤ _
     have := qp bF (ai 2 x) []
     rw [List.length_nil] at this
     omega
   . show ∀ e ∈ (aC bF (ai 2 x) []).2, ko e
     exact qo _ _ (fun y hy => OY (by have := he.2 y hy; omega)) (fun _ q => (nomatch q))
theorem NJ {x : List UInt8} (h : x.length ≤ 9000) : nF (br x).2 := by
 have hd : nF default := ⟨by decide, by decide, fun _ h => (nomatch h)⟩
 have he := fJ (no := 2) (s := x)
 have hj := je (no := 1) (s := x)
 unfold br
 split
 . exact hd
 split
 . exact hd
 split
 . exact hd
 split
 . exact hd
 . refine ⟨?_, ?_, ?_⟩
   . show bd (bI 1 (jn 1 x)).2 < _
     have := tC 1 (jn 1 x)
     omega
   . show (aC ct (ai 2 x) []).2.length ≤ _
     have := qp ct (ai 2 x) []
     rw [List.length_nil] at this
     omega
   . show ∀ e ∈ (aC ct (ai 2 x) []).2, j5 e
     exact qo _ _ (fun y hy => OD (by have := he.2 y hy; omega)) (fun _ q => (nomatch q))
theorem vQ {x : List UInt8} (h : x.length ≤ 9000) : l9 (aC br (ai 1 x) []).2 := by
 have he := fJ (no := 1) (s := x)
 refine ⟨?_, qo _ _ (fun y hy => NJ (by have := he.2 y hy; omega)) (fun _ q => (nomatch q))⟩
 have := qp br (ai 1 x) []
 rw [List.length_nil] at this
 omega
end Go.Proofs.YtdjolnjlhbfnmaaGreatDoor
