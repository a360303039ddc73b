/- Regions that draw their order, whose operations read and whose callees make memory that nobody sees; there is no program here. -/
import Derived.Test.YtgkjgaijjihmgaaMem7
import Derived.Deep.QuietTactic
import Derived.BigQuiet
namespace Go.Proofs.Ytgkjgaijjihmgaa
open Go.RowKit
/-- a world that is as v was, below B -/
structure After (B : Nat) (v : World) where
  w : World
  below : Below B v w
instance {B : Nat} {v : World} : Nonempty (After B v) := ⟨⟨v, Below.refl _ _⟩⟩
theorem After.cell {B b o : Nat} {v : World} {u : Value} (x : After B v) (h : v.cell? ⟨b, o, none⟩ = some u) (hb : b < B) : x.w.cell? ⟨b, o, none⟩ = some u := cell_old h x.below hb
theorem After.rd {B hi size n : Nat} {v : World} {A : Option Addr} {xs : List Value} (x : After B v) (h : Rd v hi size A n xs) (hh : hi ≤ B) (hB : B ≤ v.heap.size) : Rd x.w x.w.heap.size size A n xs :=
  (h.below x.below hh).mono (Nat.le_trans (Nat.le_trans hh hB) x.below.size)
theorem After.shr {B hi n : Nat} {v : World} {A : Option Addr} {ss : List Sh} (x : After B v) (h : ShR v hi A n ss) (hh : hi ≤ B) (hB : B ≤ v.heap.size) : ShR x.w x.w.heap.size A n ss :=
  (h.below x.below hh).mono (Nat.le_trans (Nat.le_trans hh hB) x.below.size)
theorem after_of {P : Program} {f : FuncId} {args : Array Value} {B : Nat} {v : World} {x : After B v} {u : Value} (hB : B ≤ v.heap.size) (h : Calls P f args x.w (RetV u x.w)) :
    Calls P f args x.w fun e w'' => e = .returned u ∧ ∃ y : After B v, w'' = y.w :=
  h.mono fun _ w'' ⟨he, hb⟩ => ⟨he, ⟨w'', x.below.trans (hb.mono (Nat.le_trans hB x.below.size))⟩, rfl⟩
theorem after_pure {P : Program} {f : FuncId} {args : Array Value} {B : Nat} {v : World} {x : After B v} {u : Value} (h : Calls P f args x.w (Pure u x.w)) :
    Calls P f args x.w fun e w'' => e = .returned u ∧ ∃ y : After B v, w'' = y.w :=
  h.mono fun _ _ ⟨he, hb⟩ => ⟨he, x, hb.symm⟩
theorem wp_region_after {P : Program} {id : Nat} {Q : Exit → Act → World → Prop} {a : Act} {w : World} {l : List Oper} (B : Nat) (hm : P.follows .mixedOrders = true) (hB : Region.lexB .any l.toArray = true)
    (h : wpQuiet P l.toArray (fun w' => ∃ x : After B w, w' = x.w) (fun a' => ∀ w', (∃ x : After B w, w' = x.w) → Q .normal a' w') l a) : (Code.region id l.toArray true).wp P Q a w :=
  wp_region_quiet (C := fun w' => ∃ x : After B w, w' = x.w) hm hB ⟨⟨w.drew, (Below.refl _ _).drew⟩, rfl⟩ (by simpa using h)
end Go.Proofs.Ytgkjgaijjihmgaa
