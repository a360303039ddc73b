/- Slices of shares in memory: what they read as; there is no program here. -/
import Derived.Test.YtgkjgaijjihmgaaMem3
namespace Go.Proofs.Ytgkjgaijjihmgaa
open Go.RowKit
abbrev Sh := Int × List UInt8
/-- a slice of shares that reads as ss -/
def ShR (w : World) (hi : Nat) (A : Option Addr) (n : Nat) (ss : List Sh) : Prop :=
  ss.length = n ∧ n ≤ 9223372036854775807 ∧
    (0 < n → ∃ b off, A = some ⟨b, off, none⟩ ∧ b < hi ∧ ∀ (k : Nat) (h : k < ss.length), ∃ Ak ck, w.cell? ⟨b, off + k * 2, none⟩ = some (.int .i64 ss[k].1) ∧
      w.cell? ⟨b, off + k * 2 + 1, none⟩ = some (.slice Ak ss[k].2.length ck) ∧ Rd w hi 1 Ak ss[k].2.length (bC ss[k].2))
section
variable {w w' : World} {hi hi' n : Nat} {A : Option Addr} {ss : List Sh}
theorem ShR.keep (h : ShR w hi A n ss) (hk : ∀ b, b < hi → w'.heap[b]? = w.heap[b]?) : ShR w' hi A n ss := by
  refine ⟨h.1, h.2.1, fun hn => ?_⟩
  obtain ⟨b, off, e, hb, hc⟩ := h.2.2 hn
  refine ⟨b, off, e, hb, fun k hl => ?_⟩
  obtain ⟨Ak, ck, h1, h2, h3⟩ := hc k hl
  exact ⟨Ak, ck, (World.cell?_of_block (hk b hb)).trans h1, (World.cell?_of_block (hk b hb)).trans h2, h3.keep hk⟩
theorem ShR.mono (h : ShR w hi A n ss) (hh : hi ≤ hi') : ShR w hi' A n ss := by
  refine ⟨h.1, h.2.1, fun hn => ?_⟩
  obtain ⟨b, off, e, hb, hc⟩ := h.2.2 hn
  refine ⟨b, off, e, by omega, fun k hl => ?_⟩
  obtain ⟨Ak, ck, h1, h2, h3⟩ := hc k hl
  exact ⟨Ak, ck, h1, h2, h3.mono hh⟩
theorem ShR.below {B : Nat} (h : ShR w hi A n ss) (hb : Below B w w') (hB : hi ≤ B) : ShR w' hi A n ss := h.keep fun b hlt => hb.block b (by omega)
theorem ShR.up (h : ShR w w.heap.size A n ss) (hb : Below w.heap.size w w') : ShR w' w'.heap.size A n ss := (h.below hb (Nat.le_refl _)).mono hb.size
theorem ShR.bd (h : ShR w hi A n ss) : n ≤ 9223372036854775807 := h.2.1
theorem ShR.nil (w : World) (hi : Nat) (A : Option Addr) : ShR w hi A 0 [] := ⟨rfl, by omega, fun h => absurd h (by omega)⟩
theorem ShR.at_ (h : ShR w hi A n ss) {k : Nat} (hk : k < n) : ∃ b off, A = some ⟨b, off, none⟩ ∧ b < hi ∧ ∃ hl : k < ss.length, ∃ Ak ck, w.cell? ⟨b, off + k * 2, none⟩ = some (.int .i64 ss[k].1) ∧
    w.cell? ⟨b, off + k * 2 + 1, none⟩ = some (.slice Ak ss[k].2.length ck) ∧ Rd w hi 1 Ak ss[k].2.length (bC ss[k].2) := by
  obtain ⟨b, off, e, hb, hc⟩ := h.2.2 (by omega)
  have hl : k < ss.length := by rw [h.1]; exact hk
  obtain ⟨Ak, ck, h1, h2, h3⟩ := hc k hl
  exact ⟨b, off, e, hb, hl, Ak, ck, h1, h2, h3⟩
theorem ShR.take (h : ShR w hi A n ss) {k : Nat} (hk : k ≤ n) : ShR w hi A k (ss.take k) := by
  refine ⟨by rw [List.length_take, h.1]; omega, by have := h.2.1; omega, fun hn => ?_⟩
  obtain ⟨b, off, e, hb, hc⟩ := h.2.2 (by omega)
  refine ⟨b, off, e, hb, fun j hl => ?_⟩
  have hl' : j < ss.length := by rw [List.length_take] at hl; omega
  have hg : (ss.take k)[j] = ss[j] := List.getElem_take
  rw [hg]
  exact hc j hl'
theorem ShR.drop {b off : Nat} (h : ShR w hi (some ⟨b, off, none⟩) n ss) {k : Nat} (hk : k ≤ n) : ShR w hi (some ⟨b, off + k * 2, none⟩) (n - k) (ss.drop k) := by
  refine ⟨by rw [List.length_drop, h.1], by have := h.2.1; omega, fun hn => ?_⟩
  obtain ⟨b', off', e, hb, hc⟩ := h.2.2 (by omega)
  injection e with e
  injection e with e1 e2
  subst e1; subst e2
  refine ⟨b, off + k * 2, rfl, hb, fun j hl => ?_⟩
  have hl' : k + j < ss.length := by rw [List.length_drop] at hl; omega
  have hg : (ss.drop k)[j] = ss[k + j] := List.getElem_drop
  rw [hg]
  obtain ⟨Ak, ck, h1, h2, h3⟩ := hc (k + j) hl'
  rw [show off + (k + j) * 2 = off + k * 2 + j * 2 from by omega] at h1 h2
  exact ⟨Ak, ck, h1, h2, h3⟩
end
/-- the cells of shares: where each one's bytes lie -/
def shC (hs : List (Option Addr × Nat)) (ss : List Sh) : List Value := (hs.zip ss).flatMap fun p => [.int .i64 p.2.1, .slice p.1.1 p.2.2.length p.1.2]
theorem shC_nil : shC [] [] = [] := rfl
theorem shC_snoc {hs : List (Option Addr × Nat)} {ss : List Sh} (h : hs.length = ss.length) (p : Option Addr × Nat) (s : Sh) : shC (hs ++ [p]) (ss ++ [s]) = shC hs ss ++ [.int .i64 s.1, .slice p.1 s.2.length p.2] := by
  unfold shC
  rw [List.zip_append h, List.flatMap_append]; rfl
theorem shC_length {hs : List (Option Addr × Nat)} {ss : List Sh} (h : hs.length = ss.length) : (shC hs ss).length = ss.length * 2 := by
  induction ss generalizing hs with
  | nil => cases hs <;> rfl
  | cons s ss ih =>
    cases hs with
    | nil => simp at h
    | cons p hs =>
      have := ih (hs := hs) (by simpa using h)
      unfold shC at this ⊢
      simp only [List.zip_cons_cons, List.flatMap_cons, List.length_append, List.length_cons, List.length_nil, this]
      omega
theorem shC_get {hs : List (Option Addr × Nat)} {ss : List Sh} (h : hs.length = ss.length) {k : Nat} (hk : k < ss.length) :
    (shC hs ss)[k * 2]? = some (.int .i64 ss[k].1) ∧ (shC hs ss)[k * 2 + 1]? = some (.slice (hs[k]'(by omega)).1 ss[k].2.length (hs[k]'(by omega)).2) := by
  induction ss generalizing hs k with
  | nil => simp at hk
  | cons s ss ih =>
    cases hs with
    | nil => simp at h
    | cons p hs =>
      have e : shC (p :: hs) (s :: ss) = .int .i64 s.1 :: .slice p.1 s.2.length p.2 :: shC hs ss := rfl
      rw [e]
      cases k with
      | zero => exact ⟨rfl, rfl⟩
      | succ k =>
        have := ih (hs := hs) (by simpa using h) (k := k) (by simpa using hk)
        rw [show (k + 1) * 2 = k * 2 + 2 from by omega]
        exact this
/-- shares in new memory: the outer row, each one's bytes in a row of its own -/
structure ShO (w : World) (lo e : Nat) (A : Option Addr) (n c : Nat) (hs : List (Option Addr × Nat)) (ss : List Sh) : Prop where
  len : hs.length = ss.length
  row : w.ownsRow lo e 2 (.slice A n c) n (shC hs ss)
  data : ∀ (k : Nat) (h : k < ss.length), w.ownsRow lo 5 1 (.slice (hs[k]'(by omega)).1 ss[k].2.length (hs[k]'(by omega)).2) ss[k].2.length (bC ss[k].2)
  apart : ∀ (i j : Nat) (hi : i < hs.length) (hj : j < hs.length) (a b : Addr), i ≠ j → hs[i].1 = some a → hs[j].1 = some b → a.block ≠ b.block
theorem ShO.ssn {w : World} {lo e : Nat} {A : Option Addr} {n c : Nat} {hs : List (Option Addr × Nat)} {ss : List Sh} (h : ShO w lo e A n c hs ss) : ss.length = n := by
  have := h.row.1
  rw [shC_length h.len] at this
  omega
theorem ShO.rd {w : World} {lo e : Nat} {A : Option Addr} {n c : Nat} {hs : List (Option Addr × Nat)} {ss : List Sh} (h : ShO w lo e A n c hs ss) : ShR w w.heap.size A n ss := by
  have hr := own_rd h.row
  refine ⟨h.ssn, hr.2.1, fun hn => ?_⟩
  obtain ⟨b, off, e', hb, hc⟩ := hr.2.2 hn
  refine ⟨b, off, e', hb, fun k hk => ?_⟩
  have hg := shC_get h.len hk
  exact ⟨_, _, hc _ _ hg.1, by rw [Nat.add_assoc]; exact hc _ _ hg.2, own_rd (h.data k hk)⟩
/-- what a call gives back: shares in new memory -/
def RetShs (e n : Nat) (ss : List Sh) (w : World) (en : Ending) (w' : World) : Prop :=
  ∃ A c hs, en = .returned (.slice A n c) ∧ n ≤ c ∧ ShO w' w.heap.size e A n c hs ss ∧ Below w.heap.size w w'
end Go.Proofs.Ytgkjgaijjihmgaa
