/- Arguments of this seat's laws that are policies, or slices of policies: opened to what they read as. -/
import Derived.Test.YtmjmjloiblbhcaaDoorOpenB
import Derived.Test.YtmjmjloiblbhcaaDoorCP
import Derived.Deep.SlicePairs
namespace Go.Proofs.YtmjmjloiblbhcaaDoor
set_option maxRecDepth 100000
open Go.RowKit Go.ChangeShapes Go.WideShapes Go.Joins Go.Deep
section
variable {H : Type} {enc : TypeId × Value → H} {W : World} {b0 : Nat} {base : Nat} {held : Bool} {v : Value} {d : DataW H} {p : List MemPlace}
theorem cells_int : Tryd.prog.cellsOf 3 = 1 := by kernel_rfl
theorem cells_lrule : Tryd.prog.cellsOf 90 = 2 := by kernel_rfl
theorem cells_lrules : Tryd.prog.cellsOf 38 = 1 := by kernel_rfl
theorem cells_lpol : Tryd.prog.cellsOf 40 = 2 := by kernel_rfl
theorem field_int {n : Nat} {c : Value} {y : DataW H × List MemPlace} (h : DataW.trod enc Tryd.prog W base (fun _ => true) held n 3 [c] = some y) : ∃ x, c = .int .i64 x ∧ (Lit.int .i64 x).wf = true := by
  obtain ⟨x, e, _, hw⟩ := DataW.trod_int Tryd.underlying3 h
  simp only [List.cons.injEq, and_true] at e
  exact ⟨x, e, hw⟩
theorem field_string {n : Nat} {c : Value} {y : DataW H × List MemPlace} (h : DataW.trod enc Tryd.prog W base (fun _ => true) held n 9 [c] = some y) : ∃ s : ByteArray, c = .string s ∧ s.size ≤ 9223372036854775807 := by
  obtain ⟨s, e, _, hw⟩ := DataW.trod_string Tryd.underlying9 h
  simp only [List.cons.injEq, and_true] at e
  exact ⟨s, e, by simpa only [maxLen] using hw⟩
theorem field_rules {n : Nat} {c : Value} {y : DataW H × List MemPlace} (h : DataW.trod enc Tryd.prog W base (fun _ => true) held n 38 [c] = some y) :
    ∃ A cap rs, c = .slice A (List.length rs) cap ∧ RdR W A cap rs := by
  rcases open_slice_pairs Tryd.underlying38 Tryd.underlying90 cells_lrule rfl rfl cells_string cells_int h with ⟨hc, _⟩ | ⟨a, len, cap, m, n', V0, V1, D0, D1, P0, P1, hc, _, hlc, hcm, hm, _, hi⟩
  · simp only [List.cons.injEq, and_true] at hc
    exact ⟨none, 0, [], hc, Nat.le_refl _, by omega, Rd.nil _ _ _ _, by simp⟩
  · simp only [List.cons.injEq, and_true] at hc
    have hm' : m = cap := by simpa using hm
    have each : ∀ i, i < len → ∃ q : Rl, V0 i = .string q.1 ∧ V1 i = .int .i64 q.2 ∧ q.1.size ≤ 9223372036854775807 ∧ (Lit.int .i64 q.2).wf = true := by
      intro i hil
      obtain ⟨_, _, h0, h1⟩ := hi i (by omega)
      obtain ⟨s, hs, hw⟩ := field_string h0
      obtain ⟨x, hx, hw2⟩ := field_int h1
      exact ⟨(s, x), hs, hx, hw, hw2⟩
    obtain ⟨q, hq⟩ := choose_lt each
    have hlen : ((List.range len).map q).length = len := by simp
    have hcm' : cap ≤ 9223372036854775807 := by simpa only [maxLen] using hcm
    refine ⟨some a, cap, (List.range len).map q, by rw [hlen]; exact hc, by rw [hlen]; exact hlc, hcm', ⟨by rw [rC_length], by rw [hlen]; omega, fun hn => ?_⟩, ?_⟩
    · rw [hlen] at hn
      obtain ⟨b, off, spot⟩ := a
      have h0 := (hi 0 (by omega)).1
      have hspot : spot = none := by simpa [Addr.add] using World.cell?_spot h0
      subst hspot
      refine ⟨b, off, rfl, ?_, fun j u hj => ?_⟩
      · have := World.block_lt_of_cell? W _ h0
        simpa [Addr.add] using this
      · have hjl : j < len * 2 := by
          have := (List.getElem?_eq_some_iff.1 hj).1
          rw [rC_length, hlen] at this; exact this
        obtain ⟨k, hk2⟩ : ∃ k, j = k * 2 ∨ j = k * 2 + 1 := ⟨j / 2, by omega⟩
        have hk : k < len := by omega
        obtain ⟨e0, e1, _, _⟩ := hi k (by omega)
        obtain ⟨q0, q1, _, _⟩ := hq k hk
        have hg : ∀ h, ((List.range len).map q)[k]'h = q k := fun h => by simp
        rw [Addr.add_lit, q0] at e0
        rw [Addr.add_lit, q1] at e1
        rcases hk2 with rfl | rfl
        · rw [rC_get0 _ _ (by rw [hlen]; exact hk), hg] at hj
          cases hj
          exact e0
        · rw [rC_get1 _ _ (by rw [hlen]; exact hk), hg] at hj
          cases hj
          exact e1
    · intro x hx
      obtain ⟨i, hir, rfl⟩ := List.mem_map.1 hx
      obtain ⟨_, _, h1, h2⟩ := hq i (by simpa using hir)
      exact ⟨h1, h2⟩
theorem open_policy (hv : Value.okWide Tryd.prog W .any b0 40 v) (h : DataW.Trod enc Tryd.prog W base (fun _ => true) held 40 v d p) :
    ∃ s A c l, v = .agg #[.string s, .slice A (List.length l) c] ∧ ByteArray.size s ≤ 9223372036854775807 ∧ RdR W A c l := by
  obtain ⟨c0, c1, y0, y1, m, rfl, rfl, rfl, hy0, hy1⟩ := open_agg2 Tryd.underlying40 (by kernel_rfl) cells_lpol hv h
  obtain ⟨s, rfl, hw⟩ := field_string hy0
  obtain ⟨A, c, l, rfl, hr⟩ := field_rules hy1
  exact ⟨s, A, c, l, rfl, hw, hr⟩
end
end Go.Proofs.YtmjmjloiblbhcaaDoor
