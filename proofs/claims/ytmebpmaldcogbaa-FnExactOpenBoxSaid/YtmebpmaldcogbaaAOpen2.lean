/- Arguments of this seat's laws that are boxes: opened to what they read as. -/
import Derived.Test.YtmebpmaldcogbaaAOpen
namespace Go.Proofs.Ytmebpmaldcogbaa
set_option maxRecDepth 100000
open Go.RowKit Go.ChangeShapes Go.WideShapes Go.Joins Go.Deep
section
variable {H : Type} {enc : TypeId × Value → H} {W : World} {b0 : Nat} {base : Nat} {held : Bool} {v : Value} {d : DataW H} {p : List MemPlace}
theorem cells87 : Try.prog.cellsOf 87 = 3 := by kernel_rfl
theorem open_box (hv : Value.okWide Try.prog W .any b0 87 v) (h : DataW.Trod enc Try.prog W base (fun _ => true) held 87 v d p) :
    ∃ x A n c l t, v = .agg #[.int .i64 x, .slice A n c, .int .i64 t] ∧ ((Lit.int .i64 x).wf = true ∧ (Lit.int .i64 t).wf = true) ∧ Rd W W.heap.size 1 A n (bC l) := by
  obtain ⟨c0, c1, c2, y0, y1, y2, m, rfl, rfl, rfl, hy0, hy1, hy2⟩ := open_agg3 Try.underlying87 (by kernel_rfl) cells87 hv h
  obtain ⟨x, rfl, hw⟩ := field_int hy0
  obtain ⟨A, n, c, l, rfl, hr⟩ := field_bytes hy1
  obtain ⟨t, rfl, hw2⟩ := field_int hy2
  exact ⟨x, A, n, c, l, t, rfl, ⟨hw, hw2⟩, hr⟩
end
end Go.Proofs.Ytmebpmaldcogbaa
