/- Arguments of this seat's laws that are slices of texts: opened to what they read as. -/
import Derived.Test.YtmjmjloiblbhcaaDoorProg
import Derived.Test.YtmjmjloiblbhcaaDoorMem
import Derived.Lib.SmallJoins
import Derived.Deep.Slices
import Derived.Deep.Fields
import Derived.SliceStrings
namespace Go.Proofs.YtmjmjloiblbhcaaDoor
set_option maxRecDepth 100000
open Go.RowKit Go.ChangeShapes Go.WideShapes Go.Joins Go.Deep
/-- a slice of texts that came in -/
def RdT (W : World) (A : Option Addr) (c : Nat) (l : List ByteArray) : Prop :=
  l.length ≤ c ∧ c ≤ 9223372036854775807 ∧ Rd W W.heap.size 1 A l.length (sC l) ∧ ∀ x ∈ l, x.size ≤ 9223372036854775807
section
variable {H : Type} {enc : TypeId × Value → H} {W : World} {b0 : Nat} {base : Nat} {held : Bool} {v : Value} {d : DataW H} {p : List MemPlace}
theorem cells_string : Tryd.prog.cellsOf 9 = 1 := by kernel_rfl
theorem strs_of {A : Option Addr} {len cap n : Nat} {y : DataW H × List MemPlace} (h : DataW.trod enc Tryd.prog W base (fun _ => true) held n 58 [.slice A len cap] = some y) :
    ∃ l : List ByteArray, l.length = len ∧ RdT W A cap l := by
  rcases open_strings Tryd.underlying58 Tryd.underlying9 cells_string h with ⟨hcs, _⟩ | ⟨x, l, c, ss, hcs, _, hl, hm, hz, _, hcell, hw⟩
  · simp at hcs
    obtain ⟨rfl, rfl, rfl⟩ := hcs
    exact ⟨[], rfl, Nat.le_refl _, by omega, Rd.nil _ _ _ _, by simp⟩
  · simp at hcs
    obtain ⟨rfl, rfl, rfl⟩ := hcs
    have hz' : ss.length = cap := by simpa using hz
    have hll : (ss.take len).length = len := by rw [List.length_take]; omega
    refine ⟨ss.take len, hll, by omega, by simp only [maxLen] at hm; omega, ⟨by rw [sC_length]; omega, by simp only [maxLen] at hm; omega, fun hn => ?_⟩, fun x hx => by have := hw x (List.mem_of_mem_take hx); simpa only [maxLen] using this⟩
    obtain ⟨b, off, spot⟩ := x
    have h0 := hcell 0 (by omega)
    have hspot : spot = none := by simpa [Addr.add] using World.cell?_spot h0
    subst hspot
    refine ⟨b, off, rfl, ?_, fun j u hu => ?_⟩
    · have := World.block_lt_of_cell? W _ h0
      simpa [Addr.add] using this
    · rw [sC, List.getElem?_map, Option.map_eq_some_iff] at hu
      obtain ⟨y, hy, rfl⟩ := hu
      rw [List.getElem?_take] at hy
      split at hy
      · rename_i hj
        have := hcell j (by omega)
        rw [Addr.add_lit, List.getD_eq_getElem?_getD, hy] at this
        exact this
      · cases hy
theorem open_strs (hv : Value.okWide Tryd.prog W .any b0 58 v) (h : DataW.Trod enc Tryd.prog W base (fun _ => true) held 58 v d p) :
    ∃ A c l, v = .slice A (List.length l) c ∧ RdT W A c l := by
  obtain ⟨a, len, cap, rfl⟩ := okWide_slice Tryd.underlying58 hv
  obtain ⟨fuel, hf⟩ := h
  obtain ⟨l, rfl, hr⟩ := strs_of (by simpa [Value.cells] using hf)
  exact ⟨a, cap, l, rfl, hr⟩
end
end Go.Proofs.YtmjmjloiblbhcaaDoor
