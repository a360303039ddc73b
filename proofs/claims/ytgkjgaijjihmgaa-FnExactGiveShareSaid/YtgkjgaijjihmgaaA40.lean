/- Boxes and rows that the law of GiveShare keeps while it calls and marks; there is no condition. -/
import Derived.Test.YtgkjgaijjihmgaaA39
namespace Go.Proofs.Ytgkjgaijjihmgaa
open Go.RowKit Gf
set_option maxRecDepth 100000
theorem give_mid {W : World} {b c cb : Nat} {A B : Option Addr} {hs : List (Option Addr × Nat)} {S : List Sh} {l : List UInt8} (hb : b ≤ W.heap.size) (hO : ShO W b 31 A S.length c hs S) (ho : W.ownsRow b 5 1 (.slice B l.length cb) l.length (bC l)) (h : S = [] ∨ l = []) :
    ∃ mid, b ≤ mid ∧ mid ≤ W.heap.size ∧ ShW W b mid 31 A S.length hs S ∧ Ow W mid W.heap.size 5 1 B l.length (bC l) := by
  rcases h with rfl | rfl
  · refine ⟨b, Nat.le_refl _, hb, ⟨hO.len, ?_, fun k hk => absurd hk (by simp), hO.apart⟩, Ow.of_own ho⟩
    have hl : hs = [] := List.eq_nil_of_length_eq_zero hO.len
    subst hl
    exact Ow.nil _ _ _ _ _ _
  · exact ⟨W.heap.size, hb, Nat.le_refl _, ShO.w hO, Ow.nil _ _ _ _ _ _⟩
theorem give_one (need sum : Int) (ss : List Sh) (x : Int) (d : List UInt8) : gvSh need sum ss x d = [] ∨ gvOut need sum ss x d = [] := by
  by_cases h : gvCode need sum ss x d = 1
  · left; unfold gvSh; rw [if_neg (by rw [h]; decide), if_neg (by rw [h]; decide)]
  · right; unfold gvOut; rw [if_neg h]
theorem give_cnt (need sum : Int) (ss : List Sh) (x : Int) (d : List UInt8) : cntS (gvSh need sum ss x d) ≤ cntS ss + 1 + d.length := by
  unfold gvSh
  split
  · omega
  · split
    · rw [cntS_append]; simp [cntS]; omega
    · simp [cntS]
theorem give_out_len (need sum : Int) (ss : List Sh) (x : Int) (d : List UInt8) : (gvOut need sum ss x d).length ≤ 64 := by
  unfold gvOut
  split
  · exact cbR_len _ _
  · simp
/-- two arguments, a wanted and a given result, with their rows -/
structure MA (t0 t1 t2 e b0 g lo hi mid z : Nat) (csA csB csG csZ : Array Value) (A1 A8 B1 B8 : Option Addr) (hs8 : List (Option Addr × Nat)) (n m : Nat) (S ys : List Sh) (l lk : List UInt8) (W : World) : Prop where
  la : Blk W b0 t0 csA
  lb : Blk W (b0 + 1) t1 csB
  lg : Blk W g t2 csG
  lz : Blk W z t2 csZ
  rs : ShR W lo A1 n S
  rk : Rd W lo 1 B1 m (bC l)
  own : ShW W hi mid e A8 n hs8 ys
  key : Ow W mid z 5 1 B8 m (bC lk)
  h1 : b0 + 1 < lo
  h2 : g < lo
  h3 : lo ≤ hi
  h4 : hi ≤ mid
  h5 : mid ≤ z
section
variable {t0 t1 t2 e b0 g lo hi mid z : Nat} {csA csB csG csZ : Array Value} {A1 A8 B1 B8 : Option Addr} {hs8 : List (Option Addr × Nat)} {n m : Nat} {S ys : List Sh} {l lk : List UInt8} {W W' : World}
theorem MA.lt (h : MA t0 t1 t2 e b0 g lo hi mid z csA csB csG csZ A1 A8 B1 B8 hs8 n m S ys l lk W) : b0 + 1 < lo ∧ g < lo ∧ lo ≤ hi ∧ hi ≤ mid ∧ mid ≤ z ∧ z < W.heap.size := ⟨h.h1, h.h2, h.h3, h.h4, h.h5, h.lz.lt⟩
theorem MA.keep (h : MA t0 t1 t2 e b0 g lo hi mid z csA csB csG csZ A1 A8 B1 B8 hs8 n m S ys l lk W) (k1 : ∀ b, b < lo → W'.heap[b]? = W.heap[b]?) (k2 : ∀ b, hi ≤ b → b < W.heap.size → W'.heap[b]? = W.heap[b]?) : MA t0 t1 t2 e b0 g lo hi mid z csA csB csG csZ A1 A8 B1 B8 hs8 n m S ys l lk W' := by
  have hl := h.lt
  exact ⟨(k1 _ (by omega)).trans h.la, (k1 _ h.h1).trans h.lb, (k1 _ h.h2).trans h.lg, (k2 _ (by omega) h.lz.lt).trans h.lz, h.rs.keep k1, h.rk.keep k1, h.own.keep fun b h1 h2 => k2 b h1 (by omega), h.key.keep fun b h1 h2 => k2 b (by omega) (by omega), h.h1, h.h2, h.h3, h.h4, h.h5⟩
theorem MA.up (h : MA t0 t1 t2 e b0 g lo hi mid z csA csB csG csZ A1 A8 B1 B8 hs8 n m S ys l lk W) (hb : Below W.heap.size W W') : MA t0 t1 t2 e b0 g lo hi mid z csA csB csG csZ A1 A8 B1 B8 hs8 n m S ys l lk W' :=
  h.keep (fun b hl => hb.block b (by have := h.lt; omega)) (fun b _ hl => hb.block b hl)
theorem MA.mkd {a c : Nat} (h : MA t0 t1 t2 e b0 g lo hi mid z csA csB csG csZ A1 A8 B1 B8 hs8 n m S ys l lk W) (ht : Mk a c W W') (h1 : lo ≤ a) (h2 : c ≤ hi) : MA t0 t1 t2 e b0 g lo hi mid z csA csB csG csZ A1 A8 B1 B8 hs8 n m S ys l lk W' :=
  h.keep (fun b hl => ht.block b (by have := h.lt; omega) (by omega)) (fun b hl hb => ht.block b hb (by omega))
theorem MA.mark1 {zs : List Sh} (h : MA t0 t1 t2 e b0 g lo hi mid z csA csB csG csZ A1 A8 B1 B8 hs8 n m S ys l lk W) (ht : Mk hi mid W W') (ho : ShW W' hi mid e A8 n hs8 zs) : MA t0 t1 t2 e b0 g lo hi mid z csA csB csG csZ A1 A8 B1 B8 hs8 n m S zs l lk W' := by
  have hl := h.lt
  exact ⟨(ht.block _ (by omega) (by omega)).trans h.la, (ht.block _ (by omega) (by omega)).trans h.lb, (ht.block _ (by omega) (by omega)).trans h.lg, (ht.block _ (by omega) (by omega)).trans h.lz, h.rs.keep fun b hb => ht.block b (by omega) (by omega), h.rk.keep fun b hb => ht.block b (by omega) (by omega), ho, h.key.keep fun b h1 h2 => ht.block b (by omega) (by omega), h.h1, h.h2, h.h3, h.h4, h.h5⟩
theorem MA.mark2 {lz : List UInt8} (h : MA t0 t1 t2 e b0 g lo hi mid z csA csB csG csZ A1 A8 B1 B8 hs8 n m S ys l lk W) (ht : Mk mid z W W') (ho : Ow W' mid z 5 1 B8 m (bC lz)) : MA t0 t1 t2 e b0 g lo hi mid z csA csB csG csZ A1 A8 B1 B8 hs8 n m S ys l lz W' := by
  have hl := h.lt
  exact ⟨(ht.block _ (by omega) (by omega)).trans h.la, (ht.block _ (by omega) (by omega)).trans h.lb, (ht.block _ (by omega) (by omega)).trans h.lg, (ht.block _ (by omega) (by omega)).trans h.lz, h.rs.keep fun b hb => ht.block b (by omega) (by omega), h.rk.keep fun b hb => ht.block b (by omega) (by omega), h.own.keep fun b h1 h2 => ht.block b (by omega) (by omega), ho, h.h1, h.h2, h.h3, h.h4, h.h5⟩
theorem MA.r1 (h : MA t0 t1 t2 e b0 g lo hi mid z csA csB csG csZ A1 A8 B1 B8 hs8 n m S ys l lk W) : ShR W W.heap.size A1 n S := h.rs.mono (by have := h.lt; omega)
theorem MA.r2 (h : MA t0 t1 t2 e b0 g lo hi mid z csA csB csG csZ A1 A8 B1 B8 hs8 n m S ys l lk W) : ShR W W.heap.size A8 n ys := h.own.rd.mono (by have := h.lt; omega)
theorem MA.k1 (h : MA t0 t1 t2 e b0 g lo hi mid z csA csB csG csZ A1 A8 B1 B8 hs8 n m S ys l lk W) : Rd W W.heap.size 1 B1 m (bC l) := h.rk.mono (by have := h.lt; omega)
theorem MA.k2 (h : MA t0 t1 t2 e b0 g lo hi mid z csA csB csG csZ A1 A8 B1 B8 hs8 n m S ys l lk W) : Rd W W.heap.size 1 B8 m (bC lk) := h.key.rd.mono (by have := h.lt; omega)
end
/-- the two copies that are handed over, with their rows -/
structure MX (t1 t2 e lo x y : Nat) (csX csY : Array Value) (A6 A7 : Option Addr) (hs6 : List (Option Addr × Nat)) (n m : Nat) (ys : List Sh) (d : List UInt8) (W : World) : Prop where
  lx : Blk W x t1 csX
  ly : Blk W y t2 csY
  ox : ShW W lo x e A6 n hs6 ys
  oy : Ow W (x + 1) y 5 1 A7 m (bC d)
  h1 : lo ≤ x
  h2 : x < y
section
variable {t1 t2 e lo x y : Nat} {csX csY : Array Value} {A6 A7 : Option Addr} {hs6 : List (Option Addr × Nat)} {n m : Nat} {ys : List Sh} {d : List UInt8} {W W' : World}
theorem MX.lt (h : MX t1 t2 e lo x y csX csY A6 A7 hs6 n m ys d W) : lo ≤ x ∧ x < y ∧ y < W.heap.size := ⟨h.h1, h.h2, h.ly.lt⟩
theorem MX.up (h : MX t1 t2 e lo x y csX csY A6 A7 hs6 n m ys d W) (hb : Below W.heap.size W W') : MX t1 t2 e lo x y csX csY A6 A7 hs6 n m ys d W' := by
  have hl := h.lt
  exact ⟨(hb.block _ (by omega)).trans h.lx, (hb.block _ (by omega)).trans h.ly, h.ox.keep fun b _ h2 => hb.block b (by omega), h.oy.keep fun b _ h2 => hb.block b (by omega), h.h1, h.h2⟩
theorem MX.mark {zs : List Sh} (h : MX t1 t2 e lo x y csX csY A6 A7 hs6 n m ys d W) (ht : Mk lo x W W') (ho : ShW W' lo x e A6 n hs6 zs) : MX t1 t2 e lo x y csX csY A6 A7 hs6 n m zs d W' := by
  have hl := h.lt
  exact ⟨(ht.block _ (by omega) (by omega)).trans h.lx, (ht.block _ (by omega) (by omega)).trans h.ly, ho, h.oy.keep fun b h1 h2 => ht.block b (by omega) (by omega), h.h1, h.h2⟩
theorem MX.r1 (h : MX t1 t2 e lo x y csX csY A6 A7 hs6 n m ys d W) : ShR W W.heap.size A6 n ys := h.ox.rd.mono (by have := h.lt; omega)
theorem MX.r2 (h : MX t1 t2 e lo x y csX csY A6 A7 hs6 n m ys d W) : Rd W W.heap.size 1 A7 m (bC d) := h.oy.rd.mono (by have := h.lt; omega)
end
end Go.Proofs.Ytgkjgaijjihmgaa
