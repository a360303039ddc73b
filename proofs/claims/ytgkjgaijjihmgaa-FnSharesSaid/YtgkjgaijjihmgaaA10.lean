/- Tags: what slices.Concat and the two tag functions give. -/
import Derived.Test.YtgkjgaijjihmgaaA8
namespace Go.Proofs.Ytgkjgaijjihmgaa
open Go.RowKit Gf
set_option maxRecDepth 100000
set_option maxHeartbeats 400000
abbrev Row := Option Addr × Nat × Nat × List UInt8
def rowC (L : List Row) : List Value := L.map fun x => .slice x.1 x.2.1 x.2.2.1
def rowN (L : List Row) : Nat := (L.map fun x => x.2.1).sum
def rowB (L : List Row) : List UInt8 := (L.map fun x => x.2.2.2).flatten
theorem rowC_length (L : List Row) : (rowC L).length = L.length := by simp [rowC]
theorem rowC_get {L : List Row} {k : Nat} (h : k < L.length) : (rowC L)[k]? = some (.slice L[k].1 L[k].2.1 L[k].2.2.1) := by simp [rowC, h]
theorem take_succ_r {α : Type} (l : List α) (k : Nat) (h : k < l.length) : l.take (k + 1) = l.take k ++ [l[k]] := by
  rw [List.take_succ_eq_append_getElem h]
theorem rowN_succ {L : List Row} {k : Nat} (h : k < L.length) : rowN (L.take (k + 1)) = rowN (L.take k) + L[k].2.1 := by
  rw [take_succ_r L k h]
  simp only [rowN, List.map_append, List.sum_append, List.map_cons, List.map_nil, List.sum_cons, List.sum_nil, Nat.add_zero]
theorem rowB_succ {L : List Row} {k : Nat} (h : k < L.length) : rowB (L.take (k + 1)) = rowB (L.take k) ++ L[k].2.2.2 := by
  rw [take_succ_r L k h]
  simp only [rowB, List.map_append, List.flatten_append, List.map_cons, List.map_nil, List.flatten_cons, List.flatten_nil, List.append_nil]
theorem rowN_le (L : List Row) (k : Nat) : rowN (L.take k) ≤ rowN L := by
  conv => rhs; rw [← List.take_append_drop k L]
  simp only [rowN, List.map_append, List.sum_append]
  omega
theorem Rd.row {w : World} {hi n : Nat} {A : Option Addr} {L : List Row} (h : Rd w hi 1 A n (rowC L)) {k : Nat} (hk : k < n) : ∃ b off, A = some ⟨b, off, none⟩ ∧ b < hi ∧ ∃ hl : k < L.length, w.cell? ⟨b, off + k, none⟩ = some (.slice L[k].1 L[k].2.1 L[k].2.2.1) := by
  obtain ⟨b, off, rfl, hb, hc⟩ := h.2.2 (by omega)
  have hl : k < L.length := by have := h.1; rw [rowC_length] at this; omega
  exact ⟨b, off, rfl, hb, hl, hc k _ (rowC_get hl)⟩
def tagB (a b : Int) (l : List UInt8) : Int := dig (pwB a ++ (pwB b ++ l))
def tagOk (a b : Int) (n : Nat) : Bool := inB a 0 1099511627776 && inB b 0 1099511627776 && decide (n ≤ 2000)
def tag_ (a b : Int) (l : List UInt8) : Int := if tagOk a b l.length then tagB a b l else -1
end Go.Proofs.Ytgkjgaijjihmgaa
