/- Worlds in which only some blocks have turned, and new ones stand; there is no program here. -/
import Derived.Test.YtmjmjloiblbhcaaDoorMemB
namespace Go.Proofs.YtmjmjloiblbhcaaDoor
open Go.RowKit
/-- of the old blocks only those from lo to hi have turned -/
structure Tch (lo hi : Nat) (w w' : World) : Prop where
  os : w'.os = w.os
  tape : w'.tape = w.tape
  output : w'.output = w.output
  size : w.heap.size ≤ w'.heap.size
  block : ∀ k, k < w.heap.size → ¬ (lo ≤ k ∧ k < hi) → w'.heap[k]? = w.heap[k]?
theorem Tch.refl (lo hi : Nat) (w : World) : Tch lo hi w w := ⟨rfl, rfl, rfl, Nat.le_refl _, fun _ _ _ => rfl⟩
theorem Tch.trans {lo hi : Nat} {a b c : World} (h : Tch lo hi a b) (k : Tch lo hi b c) : Tch lo hi a c :=
  ⟨k.os.trans h.os, k.tape.trans h.tape, k.output.trans h.output, Nat.le_trans h.size k.size, fun i h1 h2 => (k.block i (Nat.lt_of_lt_of_le h1 h.size) h2).trans (h.block i h1 h2)⟩
theorem Tch.of_below {lo hi : Nat} {w w' : World} (h : Below w.heap.size w w') : Tch lo hi w w' := ⟨h.os, h.tape, h.output, h.size, fun k hk _ => h.block k hk⟩
theorem Tch.setCell {lo hi : Nat} {a w : World} (h : Tch lo hi a w) {p : Addr} (hl : lo ≤ p.block) (hh : p.block < hi) (u : Value) : Tch lo hi a (w.setCell p u) :=
  ⟨h.os, h.tape, h.output, by rw [World.size_setCell]; exact h.size, fun k hk hn => (Below.heap_setCell w p u k (by omega)).trans (h.block k hk hn)⟩
theorem Tch.below {lo hi : Nat} {w w' : World} (h : Tch lo hi w w') (hl : lo ≤ w.heap.size) : Below lo w w' :=
  ⟨h.os, h.tape, h.output, h.size, fun k hk => h.block k (by omega) (by omega)⟩
theorem Tch.rd {lo hi h' size n : Nat} {w w' : World} {A : Option Addr} {xs : List Value} (h : Tch lo hi w w') (hr : Rd w h' size A n xs) (hh : h' ≤ lo) (hl : lo ≤ w.heap.size) : Rd w' h' size A n xs := hr.below (h.below hl) hh
theorem Tch.ow {lo hi l' h' e size n : Nat} {w w' : World} {A : Option Addr} {xs : List Value} (h : Tch lo hi w w') (ho : Ow w l' h' e size A n xs) (hh : hi ≤ l') (hb : h' ≤ w.heap.size) : Ow w' l' h' e size A n xs :=
  ho.keep fun b h1 h2 => h.block b (by omega) (by omega)
theorem Ow.up {lo hi e size n : Nat} {w w' : World} {A : Option Addr} {xs : List Value} (h : Ow w lo hi e size A n xs) (hb : Below w.heap.size w w') (hh : hi ≤ w.heap.size) : Ow w' lo hi e size A n xs := h.below hb hh
theorem own_below {w w' : World} {base e size n c : Nat} {A : Option Addr} {xs : List Value} (h : w.ownsRow base e size (.slice A n c) n xs) (hb : Below w.heap.size w w') : w'.ownsRow base e size (.slice A n c) n xs := by
  refine ⟨h.1, ?_⟩
  rcases h.2 with h2 | ⟨g, cap, cur, hv, hbs, hg, r⟩
  · exact .inl h2
  · exact .inr ⟨g, cap, cur, hv, hbs, (hb.block _ (Array.getElem?_eq_some_iff.1 hg).1).trans hg, r⟩
end Go.Proofs.YtmjmjloiblbhcaaDoor
