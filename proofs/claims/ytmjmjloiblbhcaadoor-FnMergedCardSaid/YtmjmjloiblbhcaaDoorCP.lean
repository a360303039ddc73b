/- Rows of policies in memory: what a slice of policies reads as; there is no program here. -/
import Derived.Test.YtmjmjloiblbhcaaDoorCR
namespace Go.Proofs.YtmjmjloiblbhcaaDoor
open Go.RowKit
abbrev Pl := ByteArray × List Rl
/-- a slice that reads as policies -/
def PlR (w : World) (hi : Nat) (A : Option Addr) (n : Nat) (ps : List Pl) : Prop :=
  ps.length = n ∧ n ≤ 9223372036854775807 ∧
    (0 < n → ∃ b off, A = some ⟨b, off, none⟩ ∧ b < hi ∧ ∀ k (hl : k < ps.length), ∃ Ak ck, w.cell? ⟨b, off + k * 2, none⟩ = some (.string ps[k].1) ∧
      w.cell? ⟨b, off + k * 2 + 1, none⟩ = some (.slice Ak ps[k].2.length ck) ∧ Rd w hi 2 Ak ps[k].2.length (rC ps[k].2))
theorem PlR.nil (w : World) (hi : Nat) (A : Option Addr) : PlR w hi A 0 [] := ⟨rfl, by omega, fun h => absurd h (by omega)⟩
theorem PlR.bd {w : World} {hi n : Nat} {A : Option Addr} {ps : List Pl} (h : PlR w hi A n ps) : n ≤ 9223372036854775807 := h.2.1
theorem PlR.keep {w w' : World} {hi n : Nat} {A : Option Addr} {ps : List Pl} (h : PlR w hi A n ps) (hk : ∀ b, b < hi → w'.heap[b]? = w.heap[b]?) : PlR w' hi A n ps := by
  refine ⟨h.1, h.2.1, fun hn => ?_⟩
  obtain ⟨b, off, e, hb, hc⟩ := h.2.2 hn
  refine ⟨b, off, e, hb, fun k hl => ?_⟩
  obtain ⟨Ak, ck, h1, h2, h3⟩ := hc k hl
  exact ⟨Ak, ck, (World.cell?_of_block (w := w) (hk b hb)).trans h1, (World.cell?_of_block (w := w) (hk b hb)).trans h2, h3.keep hk⟩
theorem PlR.mono {w : World} {hi hi' n : Nat} {A : Option Addr} {ps : List Pl} (h : PlR w hi A n ps) (hh : hi ≤ hi') : PlR w hi' A n ps := by
  refine ⟨h.1, h.2.1, fun hn => ?_⟩
  obtain ⟨b, off, e, hb, hc⟩ := h.2.2 hn
  refine ⟨b, off, e, by omega, fun k hl => ?_⟩
  obtain ⟨Ak, ck, h1, h2, h3⟩ := hc k hl
  exact ⟨Ak, ck, h1, h2, h3.mono hh⟩
theorem PlR.below {w w' : World} {hi n B : Nat} {A : Option Addr} {ps : List Pl} (h : PlR w hi A n ps) (hb : Below B w w') (hB : hi ≤ B) : PlR w' hi A n ps := h.keep fun b hlt => hb.block b (by omega)
theorem PlR.up {w w' : World} {n : Nat} {A : Option Addr} {ps : List Pl} (h : PlR w w.heap.size A n ps) (hb : Below w.heap.size w w') : PlR w' w'.heap.size A n ps := (h.below hb (Nat.le_refl _)).mono hb.size
theorem PlR.at_ {w : World} {hi n : Nat} {A : Option Addr} {ps : List Pl} (h : PlR w hi A n ps) {k : Nat} (hk : k < n) : ∃ b off, A = some ⟨b, off, none⟩ ∧ b < hi ∧ ∃ hl : k < ps.length, ∃ Ak ck, w.cell? ⟨b, off + k * 2, none⟩ = some (.string ps[k].1) ∧
    w.cell? ⟨b, off + k * 2 + 1, none⟩ = some (.slice Ak ps[k].2.length ck) ∧ Rd w hi 2 Ak ps[k].2.length (rC ps[k].2) := by
  obtain ⟨b, off, e, hb, hc⟩ := h.2.2 (by omega)
  have hl : k < ps.length := by rw [h.1]; exact hk
  obtain ⟨Ak, ck, h1, h2, h3⟩ := hc k hl
  exact ⟨b, off, e, hb, hl, Ak, ck, h1, h2, h3⟩
/-- policies that came in -/
def RdP (W : World) (A : Option Addr) (c : Nat) (l : List Pl) : Prop :=
  l.length ≤ c ∧ c ≤ 9223372036854775807 ∧ PlR W W.heap.size A l.length l ∧ ∀ x ∈ l, x.1.size ≤ 9223372036854775807 ∧ ∀ y ∈ x.2, y.1.size ≤ 9223372036854775807 ∧ (Lit.int .i64 y.2).wf = true
end Go.Proofs.YtmjmjloiblbhcaaDoor
