/- Arguments of this seat's laws that are structs, or slices of structs: opened to what they read as. -/
import Derived.Test.YtgkjgaijjihmgaaProg
import Derived.Test.YtgkjgaijjihmgaaMem
import Derived.Lib.SmallJoins
import Derived.Deep.Slices
import Derived.Deep.Fields
namespace Go.Proofs.Ytgkjgaijjihmgaa
set_option maxRecDepth 100000
open Go.RowKit Go.ChangeShapes Go.WideShapes Go.Joins Go.Deep
section
variable {H : Type} {enc : TypeId × Value → H} {W : World} {b0 : Nat} {base : Nat} {held : Bool} {v : Value} {d : DataW H} {p : List MemPlace}
theorem cells5 : Try.prog.cellsOf 5 = 1 := by kernel_rfl
theorem cells3 : Try.prog.cellsOf 3 = 1 := by kernel_rfl
theorem cells46 : Try.prog.cellsOf 45 = 2 := by kernel_rfl
/-- a field that is a slice of bytes -/
theorem field_bytes {n : Nat} {c : Value} {y : DataW H × List MemPlace} (h : DataW.trod enc Try.prog W base (fun _ => true) held n 22 [c] = some y) : ∃ A len cap l, c = .slice A len cap ∧ Rd W W.heap.size 1 A len (bC l) := by
  obtain ⟨a, l, cp, hc⟩ := slice_form Try.underlying22 h
  simp only [List.cons.injEq, and_true] at hc
  subst hc
  obtain ⟨zs, hz⟩ := isRow_of Try.underlying22 Try.underlying5 cells5 h
  obtain ⟨m, hm⟩ := hz.bytes
  exact ⟨a, l, cp, m, rfl, hm⟩
theorem field_ints {n : Nat} {c : Value} {y : DataW H × List MemPlace} (h : DataW.trod enc Try.prog W base (fun _ => true) held n 61 [c] = some y) :
    ∃ A len cap l, c = .slice A len cap ∧ (∀ x ∈ l, (Lit.int .i64 x).wf = true) ∧ Rd W W.heap.size 1 A len (iC l) := by
  obtain ⟨a, l, cp, hc⟩ := slice_form Try.underlying61 h
  simp only [List.cons.injEq, and_true] at hc
  subst hc
  obtain ⟨zs, hz⟩ := isRow_of Try.underlying61 Try.underlying3 cells3 h
  obtain ⟨m, hw, hm⟩ := hz.ints
  exact ⟨a, l, cp, m, rfl, hw, hm⟩
theorem field_int {n : Nat} {c : Value} {y : DataW H × List MemPlace} (h : DataW.trod enc Try.prog W base (fun _ => true) held n 3 [c] = some y) : ∃ x, c = .int .i64 x ∧ (Lit.int .i64 x).wf = true := by
  obtain ⟨x, e, _, hw⟩ := DataW.trod_int Try.underlying3 h
  simp only [List.cons.injEq, and_true] at e
  exact ⟨x, e, hw⟩
theorem open_share (hv : Value.okWide Try.prog W .any b0 45 v) (h : DataW.Trod enc Try.prog W base (fun _ => true) held 45 v d p) :
    ∃ x A n c l, v = .agg #[.int .i64 x, .slice A n c] ∧ (Lit.int .i64 x).wf = true ∧ Rd W W.heap.size 1 A n (bC l) := by
  obtain ⟨c0, c1, y0, y1, m, rfl, rfl, rfl, hy0, hy1⟩ := open_agg2 Try.underlying45 (by kernel_rfl) cells46 hv h
  obtain ⟨x, rfl, hw⟩ := field_int hy0
  obtain ⟨A, n, c, l, rfl, hr⟩ := field_bytes hy1
  exact ⟨x, A, n, c, l, rfl, hw, hr⟩
end
end Go.Proofs.Ytgkjgaijjihmgaa
