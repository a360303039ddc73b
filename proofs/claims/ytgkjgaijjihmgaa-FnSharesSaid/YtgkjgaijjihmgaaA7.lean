/- One key ring by value: size, copy, equality, marks. -/
import Derived.Test.YtgkjgaijjihmgaaA6
import Derived.Test.YtgkjgaijjihmgaaA5
namespace Go.Proofs.Ytgkjgaijjihmgaa
open Go.RowKit Gf
set_option maxRecDepth 100000
set_option maxHeartbeats 400000
/-- a share in new memory -/
def RetRing (x : Int) (l : List Int) (w : World) (en : Ending) (w' : World) : Prop :=
  ∃ A c, en = .returned (.agg #[.int .i64 x, .slice A l.length c]) ∧ l.length ≤ c ∧ w'.ownsRow w.heap.size 3 1 (.slice A l.length c) l.length (iC l) ∧ Below w.heap.size w w'
def okK (y : Int) : Bool := inB y 0 1099511627776
/-- the place of the first number that is no key, or the length -/
def badAt (l : List Int) : Nat := (l.takeWhile okK).length
theorem badAt_le (l : List Int) : badAt l ≤ l.length := (List.takeWhile_sublist _).length_le
theorem badAt_lt {l : List Int} {k : Nat} (h : k < badAt l) (hl : k < l.length) : okK l[k] = true := by
  induction l generalizing k with
  | nil => simp [badAt] at h
  | cons y l ih =>
    unfold badAt at h
    rw [List.takeWhile_cons] at h
    cases hy : okK y
    · rw [hy] at h; simp at h
    · rw [hy] at h
      cases k with
      | zero => exact hy
      | succ k => exact ih (by simpa [badAt] using h) (by simpa using hl)
theorem badAt_eq {l : List Int} (hl : badAt l < l.length) : okK l[badAt l] = false := by
  induction l with
  | nil => simp at hl
  | cons y l ih =>
    cases hy : okK y
    · have : badAt (y :: l) = 0 := by simp [badAt, hy]
      simp only [this, List.getElem_cons_zero, hy]
    · have : badAt (y :: l) = badAt l + 1 := by simp [badAt, hy]
      simp only [this, List.getElem_cons_succ]
      exact ih (by rw [this] at hl; simpa using hl)
theorem badAt_all (l : List Int) : l.all okK = decide (badAt l = l.length) := by
  induction l with
  | nil => rfl
  | cons y l ih =>
    cases hy : okK y <;> simp [badAt, hy] at ih ⊢
    exact ih
def idxV (l : List Int) : Int := if badAt l < l.length then (badAt l : Int) else -1
def rgOk (x : Int) (l : List Int) : Bool := inB x 1 1000000 && inB l.length 1 12 && l.all okK
end Go.Proofs.Ytgkjgaijjihmgaa
