/- Calls that write into blocks from lo to hi, and make memory; there is no program here. -/
import Derived.Test.YtgkjgaijjihmgaaMem5
namespace Go.Proofs.Ytgkjgaijjihmgaa
open Go.RowKit
structure Mk (lo hi : Nat) (w w' : World) : Prop where
  os : w'.os = w.os
  tape : w'.tape = w.tape
  output : w'.output = w.output
  size : w.heap.size ≤ w'.heap.size
  block : ∀ k, k < w.heap.size → ¬ (lo ≤ k ∧ k < hi) → w'.heap[k]? = w.heap[k]?
theorem Blk.set {w : World} {b t : Nat} {cs : Array Value} (h : Blk w b t cs) (i : Nat) (u : Value) : Blk (w.setCell ⟨b, i, none⟩ u) b t (cs.setIfInBounds i u) := heap_setCell_same w b i cs t u h
theorem Blk.new1 (w : World) (o : Obj) (t : Nat) (cs : Array Value) : Blk ((w.alloc o).alloc (.cells cs t)) (w.heap.size + 1) t cs := by
  have h := Blk.new (w.alloc o) t cs
  have e : (w.alloc o).heap.size = w.heap.size + 1 := by simp
  rwa [e] at h
theorem Blk.new2 (w : World) (o o' : Obj) (t : Nat) (cs : Array Value) : Blk (((w.alloc o).alloc o').alloc (.cells cs t)) (w.heap.size + 1 + 1) t cs := by
  have h := Blk.new1 (w.alloc o) o' t cs
  have e : (w.alloc o).heap.size = w.heap.size + 1 := by simp
  rwa [e] at h
theorem Blk.new3 (w : World) (o o' o'' : Obj) (t : Nat) (cs : Array Value) : Blk ((((w.alloc o).alloc o').alloc o'').alloc (.cells cs t)) (w.heap.size + 1 + 1 + 1) t cs := by
  have h := Blk.new2 (w.alloc o) o' o'' t cs
  have e : (w.alloc o).heap.size = w.heap.size + 1 := by simp
  rwa [e] at h
section
variable {lo hi : Nat} {w w1 w' : World}
theorem Mk.of_chg (h : Chg lo hi w w') : Mk lo hi w w' := ⟨h.os, h.tape, h.output, by rw [h.size]; exact Nat.le_refl _, fun k _ hk => h.block k hk⟩
theorem Mk.of_below (h : Below w.heap.size w w') : Mk lo hi w w' := ⟨h.os, h.tape, h.output, h.size, fun k hk _ => h.block k hk⟩
theorem Mk.trans (h : Mk lo hi w w1) (k : Mk lo hi w1 w') : Mk lo hi w w' :=
  ⟨k.os.trans h.os, k.tape.trans h.tape, k.output.trans h.output, Nat.le_trans h.size k.size, fun i hi hn => (k.block i (Nat.lt_of_lt_of_le hi h.size) hn).trans (h.block i hi hn)⟩
theorem Mk.pre (h : Below w.heap.size w w1) (k : Mk lo hi w1 w') : Mk lo hi w w' := (Mk.of_below h).trans k
theorem Mk.post (h : Mk lo hi w w1) (k : Below w1.heap.size w1 w') : Mk lo hi w w' := h.trans (Mk.of_below k)
theorem Mk.mono {lo' hi' : Nat} (h : Mk lo hi w w') (hl : lo' ≤ lo) (hh : hi ≤ hi') : Mk lo' hi' w w' := ⟨h.os, h.tape, h.output, h.size, fun k hk hn => h.block k hk (by omega)⟩
theorem Mk.below {B : Nat} (h : Mk lo hi w w') (h1 : B ≤ lo) (h2 : B ≤ w.heap.size) : Below B w w' := ⟨h.os, h.tape, h.output, h.size, fun k hk => h.block k (by omega) (by omega)⟩
theorem Mk.drew (h : Mk lo hi w w') : Mk lo hi w w'.drew := ⟨h.os, h.tape, h.output, h.size, h.block⟩
theorem Rd.mkd {h' size n : Nat} {A : Option Addr} {xs : List Value} (r : Rd w h' size A n xs) (h : Mk lo hi w w') (h1 : h' ≤ lo ∧ h' ≤ w.heap.size) : Rd w' h' size A n xs := r.below (h.below h1.1 h1.2) (Nat.le_refl _)
theorem ShR.mkd {h' n : Nat} {A : Option Addr} {ss : List Sh} (r : ShR w h' A n ss) (h : Mk lo hi w w') (h1 : h' ≤ lo ∧ h' ≤ w.heap.size) : ShR w' h' A n ss := r.below (h.below h1.1 h1.2) (Nat.le_refl _)
theorem Ow.mkd {l' h' e size n : Nat} {A : Option Addr} {xs : List Value} (r : Ow w l' h' e size A n xs) (h : Mk lo hi w w') (h1 : (h' ≤ lo ∨ hi ≤ l') ∧ h' ≤ w.heap.size) : Ow w' l' h' e size A n xs :=
  r.keep fun b hl hh => h.block b (by omega) (by omega)
theorem ShW.mkd {l' h' e n : Nat} {A : Option Addr} {hs : List (Option Addr × Nat)} {ss : List Sh} (r : ShW w l' h' e A n hs ss) (h : Mk lo hi w w') (h1 : (h' ≤ lo ∨ hi ≤ l') ∧ h' ≤ w.heap.size) : ShW w' l' h' e A n hs ss :=
  r.keep fun b hl hh => h.block b (by omega) (by omega)
theorem Blk.mkd {b t : Nat} {cs : Array Value} (r : Blk w b t cs) (h : Mk lo hi w w') (h1 : b < lo ∨ hi ≤ b) : Blk w' b t cs ∧ (∀ i, w'.cell? ⟨b, i, none⟩ = cs[i]?) := by
  have h' : Blk w' b t cs := (h.block b r.lt (by omega)).trans r
  exact ⟨h', fun i => h'.cell i⟩
theorem ShW.drew {l' h' e n : Nat} {A : Option Addr} {hs : List (Option Addr × Nat)} {ss : List Sh} (r : ShW w l' h' e A n hs ss) : ShW w.drew l' h' e A n hs ss := r.keep fun _ _ _ => rfl
theorem ShR.drew {h' n : Nat} {A : Option Addr} {ss : List Sh} (r : ShR w h' A n ss) : ShR w.drew h' A n ss := r.keep fun _ _ => rfl
end
end Go.Proofs.Ytgkjgaijjihmgaa
