/- What a call that writes into given blocks leaves as it was; there is no program here and no condition. -/
import Derived.Test.YtmebpmaldcogbaaMem
namespace Go.Proofs.Ytmebpmaldcogbaa
open Go.RowKit
/-- only blocks from lo to hi have turned -/
structure Chg (lo hi : Nat) (w w' : World) : Prop where
  os : w'.os = w.os
  tape : w'.tape = w.tape
  output : w'.output = w.output
  size : w'.heap.size = w.heap.size
  block : ∀ k, ¬ (lo ≤ k ∧ k < hi) → w'.heap[k]? = w.heap[k]?
theorem Chg.refl (lo hi : Nat) (w : World) : Chg lo hi w w := ⟨rfl, rfl, rfl, rfl, fun _ _ => rfl⟩
theorem Chg.trans {lo hi : Nat} {a b c : World} (h : Chg lo hi a b) (k : Chg lo hi b c) : Chg lo hi a c :=
  ⟨k.os.trans h.os, k.tape.trans h.tape, k.output.trans h.output, k.size.trans h.size, fun i hi => (k.block i hi).trans (h.block i hi)⟩
theorem Chg.mono {lo hi lo' hi' : Nat} {w w' : World} (h : Chg lo hi w w') (hl : lo' ≤ lo) (hh : hi ≤ hi') : Chg lo' hi' w w' :=
  ⟨h.os, h.tape, h.output, h.size, fun k hk => h.block k (by omega)⟩
theorem Chg.setCell {lo hi : Nat} {a w : World} (h : Chg lo hi a w) {p : Addr} (hl : lo ≤ p.block) (hh : p.block < hi) (u : Value) : Chg lo hi a (w.setCell p u) :=
  ⟨h.os, h.tape, h.output, by rw [World.size_setCell]; exact h.size, fun k hk => (Below.heap_setCell w p u k (by omega)).trans (h.block k hk)⟩
theorem Chg.drewN {lo hi : Nat} {a w : World} (h : Chg lo hi a w) (n : Nat) : Chg lo hi a (w.drewN n) := ⟨h.os, h.tape, h.output, h.size, h.block⟩
theorem Chg.below {lo hi : Nat} {w w' : World} (h : Chg lo hi w w') : Below lo w w' :=
  ⟨h.os, h.tape, h.output, by rw [h.size]; exact Nat.le_refl _, fun k hk => h.block k (by omega)⟩
theorem Chg.rd {lo hi h' size n : Nat} {w w' : World} {A : Option Addr} {xs : List Value} (h : Chg lo hi w w') (hr : Rd w h' size A n xs) (hh : h' ≤ lo) : Rd w' h' size A n xs := hr.below h.below hh
theorem Chg.ow {lo hi l' h' e size n : Nat} {w w' : World} {A : Option Addr} {xs : List Value} (h : Chg lo hi w w') (ho : Ow w l' h' e size A n xs) (hh : h' ≤ lo ∨ hi ≤ l') : Ow w' l' h' e size A n xs :=
  ho.keep fun b h1 h2 => h.block b (by omega)
end Go.Proofs.Ytmebpmaldcogbaa
