/- Boxes and rows that a law keeps while it calls: what is left as it was by calls that only make memory, and by calls that mark rows; there is no condition. -/
import Derived.Test.YtmjmjloiblbhcaaDoorC13
namespace Go.Proofs.YtmjmjloiblbhcaaDoor
open Go.RowKit
/-- two arguments, a wanted and a given result, with their rows -/
structure MA (t0 t1 t2 b0 g lo hi z : Nat) (csA csB csG csZ : Array Value) (A1 A8 : Option Addr) (n : Nat) (xs ys : List Value) (W : World) : Prop where
  la : Blk W b0 t0 csA
  lb : Blk W (b0 + 1) t0 csB
  lg : Blk W g t1 csG
  lz : Blk W z t1 csZ
  rs : Rd W lo 2 A1 n xs
  own : Ow W hi z t2 2 A8 n ys
  h1 : b0 + 1 < lo
  h2 : g < lo
  h3 : lo ≤ hi
  h4 : hi ≤ z
theorem MA.keep {t0 t1 t2 b0 g lo hi z : Nat} {csA csB csG csZ : Array Value} {A1 A8 : Option Addr} {n : Nat} {xs ys : List Value} {W W' : World} (h : MA t0 t1 t2 b0 g lo hi z csA csB csG csZ A1 A8 n xs ys W) (k1 : ∀ b, b < lo → W'.heap[b]? = W.heap[b]?) (k2 : ∀ b, hi ≤ b → b < W.heap.size → W'.heap[b]? = W.heap[b]?) : MA t0 t1 t2 b0 g lo hi z csA csB csG csZ A1 A8 n xs ys W' :=
  ⟨(k1 _ (by have := h.h1; omega)).trans h.la, (k1 _ h.h1).trans h.lb, (k1 _ h.h2).trans h.lg, (k2 _ h.h4 h.lz.lt).trans h.lz, h.rs.keep k1, h.own.keep fun b hl hb => k2 b hl (by have := h.lz.lt; omega), h.h1, h.h2, h.h3, h.h4⟩
theorem MA.lt {t0 t1 t2 b0 g lo hi z : Nat} {csA csB csG csZ : Array Value} {A1 A8 : Option Addr} {n : Nat} {xs ys : List Value} {W : World} (h : MA t0 t1 t2 b0 g lo hi z csA csB csG csZ A1 A8 n xs ys W) : b0 + 1 < lo ∧ g < lo ∧ lo ≤ hi ∧ hi ≤ z ∧ z < W.heap.size := ⟨h.h1, h.h2, h.h3, h.h4, h.lz.lt⟩
theorem MA.up {t0 t1 t2 b0 g lo hi z : Nat} {csA csB csG csZ : Array Value} {A1 A8 : Option Addr} {n : Nat} {xs ys : List Value} {W W' : World} (h : MA t0 t1 t2 b0 g lo hi z csA csB csG csZ A1 A8 n xs ys W) (hb : Below W.heap.size W W') : MA t0 t1 t2 b0 g lo hi z csA csB csG csZ A1 A8 n xs ys W' :=
  h.keep (fun b hl => hb.block b (by have := h.lt; omega)) (fun b _ hl => hb.block b hl)
theorem MA.tch {t0 t1 t2 b0 g lo hi z a c : Nat} {csA csB csG csZ : Array Value} {A1 A8 : Option Addr} {n : Nat} {xs ys : List Value} {W W' : World} (h : MA t0 t1 t2 b0 g lo hi z csA csB csG csZ A1 A8 n xs ys W) (ht : Tch a c W W') (h1 : lo ≤ a) (h2 : c ≤ hi) : MA t0 t1 t2 b0 g lo hi z csA csB csG csZ A1 A8 n xs ys W' :=
  h.keep (fun b hl => ht.block b (by have := h.lt; omega) (by omega)) (fun b hl hb => ht.block b hb (by omega))
theorem MA.mark {t0 t1 t2 b0 g lo hi z : Nat} {csA csB csG csZ : Array Value} {A1 A8 : Option Addr} {n : Nat} {xs ys zs : List Value} {W W' : World} (h : MA t0 t1 t2 b0 g lo hi z csA csB csG csZ A1 A8 n xs ys W) (ht : Tch hi z W W') (ho : Ow W' hi z t2 2 A8 n zs) : MA t0 t1 t2 b0 g lo hi z csA csB csG csZ A1 A8 n xs zs W' := by
  have hl := h.lt
  exact ⟨(ht.block _ (by omega) (by omega)).trans h.la, (ht.block _ (by omega) (by omega)).trans h.lb, (ht.block _ (by omega) (by omega)).trans h.lg, (ht.block _ (by omega) (by omega)).trans h.lz, h.rs.keep fun b hb => ht.block b (by omega) (by omega), ho, h.h1, h.h2, h.h3, h.h4⟩
theorem MA.rd1 {t0 t1 t2 b0 g lo hi z : Nat} {csA csB csG csZ : Array Value} {A1 A8 : Option Addr} {n : Nat} {xs ys : List Value} {W : World} (h : MA t0 t1 t2 b0 g lo hi z csA csB csG csZ A1 A8 n xs ys W) : Rd W W.heap.size 2 A1 n xs := h.rs.mono (by have := h.lt; omega)
theorem MA.rd2 {t0 t1 t2 b0 g lo hi z : Nat} {csA csB csG csZ : Array Value} {A1 A8 : Option Addr} {n : Nat} {xs ys : List Value} {W : World} (h : MA t0 t1 t2 b0 g lo hi z csA csB csG csZ A1 A8 n xs ys W) : Rd W W.heap.size 2 A8 n ys := h.own.rd.mono (by have := h.lt; omega)
/-- the two copies that are handed over, with their rows -/
structure MX (t1 t2 lo x y : Nat) (csX csY : Array Value) (A6 A7 : Option Addr) (n m : Nat) (xs ys : List Value) (W : World) : Prop where
  lx : Blk W x t1 csX
  ly : Blk W y t1 csY
  ox : Ow W lo x t2 2 A6 n xs
  oy : Ow W (x + 1) y t2 2 A7 m ys
  h1 : lo ≤ x
  h2 : x < y
theorem MX.keep {t1 t2 lo x y : Nat} {csX csY : Array Value} {A6 A7 : Option Addr} {n m : Nat} {xs ys : List Value} {W W' : World} (h : MX t1 t2 lo x y csX csY A6 A7 n m xs ys W) (k : ∀ b, lo ≤ b → b < W.heap.size → W'.heap[b]? = W.heap[b]?) : MX t1 t2 lo x y csX csY A6 A7 n m xs ys W' := by
  have hx := h.lx.lt
  have hy := h.ly.lt
  have h1 := h.h1
  have h2 := h.h2
  exact ⟨(k _ h1 hx).trans h.lx, (k _ (by omega) hy).trans h.ly, h.ox.keep fun b hl hb => k b hl (by omega), h.oy.keep fun b hl hb => k b (by omega) (by omega), h1, h2⟩
theorem MX.up {t1 t2 lo x y : Nat} {csX csY : Array Value} {A6 A7 : Option Addr} {n m : Nat} {xs ys : List Value} {W W' : World} (h : MX t1 t2 lo x y csX csY A6 A7 n m xs ys W) (hb : Below W.heap.size W W') : MX t1 t2 lo x y csX csY A6 A7 n m xs ys W' :=
  h.keep fun b _ hl => hb.block b hl
theorem MX.rd1 {t1 t2 lo x y : Nat} {csX csY : Array Value} {A6 A7 : Option Addr} {n m : Nat} {xs ys : List Value} {W : World} (h : MX t1 t2 lo x y csX csY A6 A7 n m xs ys W) : Rd W W.heap.size 2 A6 n xs := h.ox.rd.mono (by have := h.lx.lt; omega)
theorem MX.rd2 {t1 t2 lo x y : Nat} {csX csY : Array Value} {A6 A7 : Option Addr} {n m : Nat} {xs ys : List Value} {W : World} (h : MX t1 t2 lo x y csX csY A6 A7 n m xs ys W) : Rd W W.heap.size 2 A7 m ys := h.oy.rd.mono (by have := h.ly.lt; omega)
theorem MX.lt {t1 t2 lo x y : Nat} {csX csY : Array Value} {A6 A7 : Option Addr} {n m : Nat} {xs ys : List Value} {W : World} (h : MX t1 t2 lo x y csX csY A6 A7 n m xs ys W) : lo ≤ x ∧ x < y ∧ y < W.heap.size := ⟨h.h1, h.h2, h.ly.lt⟩
/-- the first copy's rows are marked: what the second one needs -/
theorem MX.mark {t1 t2 lo x y : Nat} {csX csY : Array Value} {A6 A7 : Option Addr} {n m : Nat} {xs ys zs : List Value} {W W' : World} (h : MX t1 t2 lo x y csX csY A6 A7 n m xs ys W) (ht : Tch lo x W W') (ho : Ow W' lo x t2 2 A6 n zs) : MX t1 t2 lo x y csX csY A6 A7 n m zs ys W' := by
  have hx := h.lx.lt
  have hy := h.ly.lt
  have h1 := h.h1
  have h2 := h.h2
  exact ⟨(ht.block _ hx (by omega)).trans h.lx, (ht.block _ hy (by omega)).trans h.ly, ho, h.oy.keep fun b hl hb => ht.block b (by omega) (by omega), h1, h2⟩
end Go.Proofs.YtmjmjloiblbhcaaDoor
