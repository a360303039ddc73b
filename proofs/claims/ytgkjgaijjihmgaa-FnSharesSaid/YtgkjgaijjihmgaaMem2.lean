/- What a call that writes into given blocks leaves as it was; there is no program here and no condition. -/
import Derived.Test.YtgkjgaijjihmgaaMem
namespace Go.Proofs.Ytgkjgaijjihmgaa
open Go.RowKit
theorem bcell {W w1 : World} (hb : Below W.heap.size W w1) : (∀ b o, b < W.heap.size → w1.cell? ⟨b, o, none⟩ = W.cell? ⟨b, o, none⟩) ∧ (∀ b o, b < W.heap.size → w1.frozen? ⟨b, o, none⟩ = W.frozen? ⟨b, o, none⟩) :=
  ⟨fun b o h => hb.cell (p := ⟨b, o, none⟩) h, fun b o h => hb.frozen (p := ⟨b, o, none⟩) h⟩
theorem own_mono {w : World} {base base' e size n : Nat} {v : Value} {xs : List Value} (h : w.ownsRow base e size v n xs) (hb : base' ≤ base) : w.ownsRow base' e size v n xs := by
  refine ⟨h.1, ?_⟩
  rcases h.2 with h2 | ⟨g, cap, cur, hv, hg, r⟩
  · exact .inl h2
  · exact .inr ⟨g, cap, cur, hv, by omega, r⟩
/-- a block that is known whole -/
def Blk (w : World) (b t : Nat) (cs : Array Value) : Prop := w.heap[b]? = some (.cells cs t (0, 0))
theorem Blk.lt {w : World} {b t : Nat} {cs : Array Value} (h : Blk w b t cs) : b < w.heap.size := (Array.getElem?_eq_some_iff.1 h).1
theorem Blk.new (w : World) (t : Nat) (cs : Array Value) : Blk (w.alloc (.cells cs t)) w.heap.size t cs := heap_alloc_new w _
theorem Blk.alloc {w : World} {b t : Nat} {cs : Array Value} (h : Blk w b t cs) (o : Obj) : Blk (w.alloc o) b t cs := (Below.heap_alloc w o b h.lt).trans h
theorem Blk.drew {w : World} {b t : Nat} {cs : Array Value} (h : Blk w b t cs) : Blk w.drew b t cs := h
theorem Rd.drew {w : World} {hi size n : Nat} {A : Option Addr} {xs : List Value} (h : Rd w hi size A n xs) : Rd w.drew hi size A n xs := h
theorem Ow.drew {w : World} {lo hi e size n : Nat} {A : Option Addr} {xs : List Value} (h : Ow w lo hi e size A n xs) : Ow w.drew lo hi e size A n xs := h
theorem Blk.drewN {w : World} {b t : Nat} {cs : Array Value} (h : Blk w b t cs) (n : Nat) : Blk (w.drewN n) b t cs := h
theorem Blk.below {w w' : World} {B b t : Nat} {cs : Array Value} (h : Blk w b t cs) (hb : Below B w w') (hlt : b < B) : Blk w' b t cs := (hb.block b hlt).trans h
theorem Blk.step {w w' : World} {b t : Nat} {cs : Array Value} (h : Blk w b t cs) (hb : Below w.heap.size w w') :
    Blk w' b t cs ∧ (∀ i, w'.cell? ⟨b, i, none⟩ = cs[i]?) ∧ (∀ i, w'.frozen? ⟨b, i, none⟩ = false) ∧ b < w'.heap.size := by
  have h' := h.below hb h.lt
  exact ⟨h', fun i => cell_of_row w' b i cs t (0, 0) h', fun i => frozen_of_row w' b i cs t h', h'.lt⟩
theorem Blk.far {w : World} {b t : Nat} {cs : Array Value} (h : Blk w b t cs) {p : Addr} (hp : b ≠ p.block) (u : Value) : Blk (w.setCell p u) b t cs := (Below.heap_setCell w p u b hp).trans h
theorem Blk.cell {w : World} {b t : Nat} {cs : Array Value} (h : Blk w b t cs) (i : Nat) : w.cell? ⟨b, i, none⟩ = cs[i]? := cell_of_row w b i cs t (0, 0) h
theorem Blk.frozen {w : World} {b t : Nat} {cs : Array Value} (h : Blk w b t cs) (i : Nat) : w.frozen? ⟨b, i, none⟩ = false := frozen_of_row w b i cs t h
/-- only blocks from lo to hi have turned -/
structure Chg (lo hi : Nat) (w w' : World) : Prop where
  os : w'.os = w.os
  tape : w'.tape = w.tape
  output : w'.output = w.output
  size : w'.heap.size = w.heap.size
  block : ∀ k, ¬ (lo ≤ k ∧ k < hi) → w'.heap[k]? = w.heap[k]?
theorem Chg.refl (lo hi : Nat) (w : World) : Chg lo hi w w := ⟨rfl, rfl, rfl, rfl, fun _ _ => rfl⟩
theorem Chg.trans {lo hi : Nat} {a b c : World} (h : Chg lo hi a b) (k : Chg lo hi b c) : Chg lo hi a c :=
  ⟨k.os.trans h.os, k.tape.trans h.tape, k.output.trans h.output, k.size.trans h.size, fun i hi => (k.block i hi).trans (h.block i hi)⟩
theorem Chg.mono {lo hi lo' hi' : Nat} {w w' : World} (h : Chg lo hi w w') (hl : lo' ≤ lo) (hh : hi ≤ hi') : Chg lo' hi' w w' :=
  ⟨h.os, h.tape, h.output, h.size, fun k hk => h.block k (by omega)⟩
theorem Chg.setCell {lo hi : Nat} {a w : World} (h : Chg lo hi a w) {p : Addr} (hl : lo ≤ p.block) (hh : p.block < hi) (u : Value) : Chg lo hi a (w.setCell p u) :=
  ⟨h.os, h.tape, h.output, by rw [World.size_setCell]; exact h.size, fun k hk => (Below.heap_setCell w p u k (by omega)).trans (h.block k hk)⟩
theorem Chg.drewN {lo hi : Nat} {a w : World} (h : Chg lo hi a w) (n : Nat) : Chg lo hi a (w.drewN n) := ⟨h.os, h.tape, h.output, h.size, h.block⟩
theorem Chg.below {lo hi : Nat} {w w' : World} (h : Chg lo hi w w') : Below lo w w' :=
  ⟨h.os, h.tape, h.output, by rw [h.size]; exact Nat.le_refl _, fun k hk => h.block k (by omega)⟩
theorem Chg.rd {lo hi h' size n : Nat} {w w' : World} {A : Option Addr} {xs : List Value} (h : Chg lo hi w w') (hr : Rd w h' size A n xs) (hh : h' ≤ lo) : Rd w' h' size A n xs := hr.below h.below hh
theorem Chg.ow {lo hi l' h' e size n : Nat} {w w' : World} {A : Option Addr} {xs : List Value} (h : Chg lo hi w w') (ho : Ow w l' h' e size A n xs) (hh : h' ≤ lo ∨ hi ≤ l') : Ow w' l' h' e size A n xs :=
  ho.keep fun b h1 h2 => h.block b (by omega)
end Go.Proofs.Ytgkjgaijjihmgaa
