/- Arguments of this seat's laws that are slices of shares, or seals: opened to what they read as. -/
import Derived.Test.YtgkjgaijjihmgaaAOpen
import Derived.Test.YtgkjgaijjihmgaaMem4
import Derived.Deep.SlicePairs
namespace Go.Proofs.Ytgkjgaijjihmgaa
set_option maxRecDepth 100000
open Go.RowKit Go.ChangeShapes Go.WideShapes Go.Joins Go.Deep
section
variable {H : Type} {enc : TypeId × Value → H} {W : World} {b0 : Nat} {base : Nat} {held : Bool} {v : Value} {d : DataW H} {p : List MemPlace}
theorem cells25 : Try.prog.cellsOf 22 = 1 := by kernel_rfl
theorem cells68 : Try.prog.cellsOf 42 = 1 := by kernel_rfl
theorem cells70 : Try.prog.cellsOf 44 = 3 := by kernel_rfl
theorem field_shares {n : Nat} {c : Value} {y : DataW H × List MemPlace} (h : DataW.trod enc Try.prog W base (fun _ => true) held n 42 [c] = some y) :
    ∃ A len cap ss, c = .slice A len cap ∧ ShR W W.heap.size A len ss ∧ len ≤ cap := by
  rcases open_slice_pairs Try.underlying42 Try.underlying45 cells46 rfl rfl cells3 cells25 h with ⟨hc, _⟩ | ⟨a, len, cap, m, n', V0, V1, D0, D1, P0, P1, hc, _, hlc, hcm, hm, _, hi⟩
  · simp only [List.cons.injEq, and_true] at hc
    exact ⟨none, 0, 0, [], hc, ShR.nil _ _ _, Nat.le_refl _⟩
  · simp only [List.cons.injEq, and_true] at hc
    have hm' : m = cap := by simpa using hm
    have each : ∀ i, i < len → ∃ q : Sh × (Option Addr × Nat), V0 i = .int .i64 q.1.1 ∧ V1 i = .slice q.2.1 q.1.2.length q.2.2 ∧ Rd W W.heap.size 1 q.2.1 q.1.2.length (bC q.1.2) := by
      intro i hil
      obtain ⟨_, _, h0, h1⟩ := hi i (by omega)
      obtain ⟨x, hx, _⟩ := field_int h0
      obtain ⟨A, n, c, l, hA, hr⟩ := field_bytes h1
      have hl := hr.bn
      subst hl
      exact ⟨((x, l), (A, c)), hx, hA, hr⟩
    obtain ⟨q, hq⟩ := choose_lt each
    refine ⟨some a, len, cap, (List.range len).map fun i => (q i).1, hc, ⟨by simp, by simp only [maxLen] at hcm; omega, fun hn => ?_⟩, hlc⟩
    obtain ⟨b, off, spot⟩ := a
    have h0 := (hi 0 (by omega)).1
    have hspot : spot = none := by simpa [Addr.add] using World.cell?_spot h0
    subst hspot
    refine ⟨b, off, rfl, ?_, fun k hk => ?_⟩
    · have := World.block_lt_of_cell? W _ h0
      simpa [Addr.add] using this
    · have hkl : k < len := by simpa using hk
      obtain ⟨e0, e1, _, _⟩ := hi k (by omega)
      obtain ⟨q0, q1, q2⟩ := hq k hkl
      have hg : ((List.range len).map fun i => (q i).1)[k] = (q k).1 := by simp
      rw [hg]
      rw [Addr.add_lit, q0] at e0
      rw [Addr.add_lit, q1, ← Nat.add_assoc] at e1
      exact ⟨_, _, e0, e1, q2⟩
theorem open_shares (hv : Value.okWide Try.prog W .any b0 42 v) (h : DataW.Trod enc Try.prog W base (fun _ => true) held 42 v d p) :
    ∃ A n c ss, v = .slice A n c ∧ ShR W W.heap.size A n ss ∧ n ≤ c := by
  obtain ⟨a, l, c, rfl⟩ := okWide_slice Try.underlying42 hv
  obtain ⟨fuel, hf⟩ := h
  obtain ⟨A, n, c', ss, e, hr, hnc⟩ := field_shares (by simpa [Value.cells] using hf)
  exact ⟨A, n, c', ss, e, hr, hnc⟩
theorem open_seal (hv : Value.okWide Try.prog W .any b0 44 v) (h : DataW.Trod enc Try.prog W base (fun _ => true) held 44 v d p) :
    ∃ need sum A n c ss, v = .agg #[.int .i64 need, .int .i64 sum, .slice A n c] ∧ ((Lit.int .i64 need).wf = true ∧ (Lit.int .i64 sum).wf = true) ∧ ShR W W.heap.size A n ss ∧ n ≤ c := by
  obtain ⟨c0, c1, c2, y0, y1, y2, m, rfl, rfl, rfl, hy0, hy1, hy2⟩ := open_agg3 Try.underlying44 (by kernel_rfl) cells70 hv h
  obtain ⟨x, rfl, hw⟩ := field_int hy0
  obtain ⟨t, rfl, hw2⟩ := field_int hy1
  obtain ⟨A, n, c, ss, rfl, hr, hnc⟩ := field_shares hy2
  exact ⟨x, t, A, n, c, ss, rfl, ⟨hw, hw2⟩, hr, hnc⟩
end
end Go.Proofs.Ytgkjgaijjihmgaa
