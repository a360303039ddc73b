/- Boxes: sealing and opening: what the program's and the reference's functions give. -/
import Derived.Test.YtgkjgaijjihmgaaA15
import Derived.Test.YtgkjgaijjihmgaaA6
import Derived.Test.YtgkjgaijjihmgaaA13
import Derived.Deep.QuietTactic
import Derived.BigQuiet
namespace Go.Proofs.Ytgkjgaijjihmgaa
open Go.RowKit Gf
set_option maxRecDepth 100000
set_option maxHeartbeats 400000
def RetBox (x : Int) (l : List UInt8) (t : Int) (w : World) (en : Ending) (w' : World) : Prop :=
  ∃ A c, en = .returned (.agg #[.int .i64 x, .slice A l.length c, .int .i64 t]) ∧ l.length ≤ c ∧ w'.ownsRow w.heap.size 5 1 (.slice A l.length c) l.length (bC l) ∧ Below w.heap.size w w'
def RetBox2 (x : Int) (l : List UInt8) (t : Int) (ok : Bool) (w : World) (en : Ending) (w' : World) : Prop :=
  ∃ A c, en = .returned (.tuple #[.agg #[.int .i64 x, .slice A l.length c, .int .i64 t], .bool ok]) ∧ l.length ≤ c ∧ w'.ownsRow w.heap.size 5 1 (.slice A l.length c) l.length (bC l) ∧ Below w.heap.size w w'
def RetRow2 (l : List UInt8) (ok : Bool) (w : World) (en : Ending) (w' : World) : Prop :=
  ∃ A c, en = .returned (.tuple #[.slice A l.length c, .bool ok]) ∧ l.length ≤ c ∧ w'.ownsRow w.heap.size 5 1 (.slice A l.length c) l.length (bC l) ∧ Below w.heap.size w w'
def sbX (key nonce : Int) (l : List UInt8) : Int := if tagOk key nonce l.length then nonce else 0
def sbL (key nonce : Int) (l : List UInt8) : List UInt8 := if tagOk key nonce l.length then xB key nonce l else []
def sbT (key nonce : Int) (l : List UInt8) : Int := if tagOk key nonce l.length then tagB key nonce (xB key nonce l) else 0
theorem sb_no {k n : Int} {l : List UInt8} (h : tagOk k n l.length = false) : sbX k n l = 0 ∧ sbL k n l = [] ∧ sbT k n l = 0 := by
  unfold sbX sbL sbT; rw [h]; exact ⟨rfl, rfl, rfl⟩
theorem sb_yes {k n : Int} {l : List UInt8} (h : tagOk k n l.length = true) : sbX k n l = n ∧ sbL k n l = xB k n l ∧ sbT k n l = tagB k n (xB k n l) := by
  unfold sbX sbL sbT; rw [h]; exact ⟨rfl, rfl, rfl⟩
theorem tag_cases {k n : Int} {m : Nat} (h : tagOk k n m = false) : inB k 0 1099511627776 = false ∨ (inB k 0 1099511627776 = true ∧ inB n 0 1099511627776 = false) ∨ (inB k 0 1099511627776 = true ∧ inB n 0 1099511627776 = true ∧ 2000 < m) := by
  unfold tagOk at h
  cases h1 : inB k 0 1099511627776 <;> cases h2 : inB n 0 1099511627776 <;> simp_all
theorem tag_true {k n : Int} {m : Nat} (h : tagOk k n m = true) : inB k 0 1099511627776 = true ∧ inB n 0 1099511627776 = true ∧ m ≤ 2000 := by
  unfold tagOk at h
  rw [Bool.and_eq_true, Bool.and_eq_true] at h
  exact ⟨h.1.1, h.1.2, of_decide_eq_true h.2⟩
end Go.Proofs.Ytgkjgaijjihmgaa
