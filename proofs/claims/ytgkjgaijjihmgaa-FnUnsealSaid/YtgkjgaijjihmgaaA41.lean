/- The program's GiveShare at the shares of one split: what it gives with the next share, and with the same share again. -/
import Derived.Test.YtgkjgaijjihmgaaA39
import Derived.Test.YtgkjgaijjihmgaaP3
namespace Go.Proofs.Ytgkjgaijjihmgaa
open Go.RowKit Gf
set_option maxRecDepth 100000
set_option maxHeartbeats 400000
/-- what GiveShare gives back, the lengths as numbers -/
def RetG (need sum : Int) (n : Nat) (S : List Sh) (code : Int) (m : Nat) (l : List UInt8) (w : World) (en : Ending) (w' : World) : Prop :=
  ∃ A c hs B cb, en = .returned (.tuple #[.agg #[.int .i64 need, .int .i64 sum, .slice A n c], .int .i64 code, .slice B m cb]) ∧ n ≤ c ∧ ShO w' w.heap.size 31 A n c hs S ∧
    w'.ownsRow w.heap.size 5 1 (.slice B m cb) m (bC l) ∧ Below w.heap.size w w'
theorem RetGive.g {need sum code code' : Int} {S S' : List Sh} {l l' : List UInt8} {n m : Nat} {w w' : World} {en : Ending} (h : RetGive need sum S code l w en w') (hS : S = S') (hn : S'.length = n) (hc : code = code') (hl : l = l') (hm : l'.length = m) :
    RetG need sum n S' code' m l' w en w' := by
  subst hS; subst hn; subst hc; subst hl; subst hm
  obtain ⟨A, c, hs, B, cb, h1, h2, _, h4, h5, h6⟩ := h
  exact ⟨A, c, hs, B, cb, h1, h2, h4, h5, h6⟩
theorem Spl.short {seed : Int} {K : Nat} {l : List UInt8} {ss : List Sh} (h : Spl seed K l ss) (h2 : l.length ≤ 64) : ∀ k (h : k < ss.length), ss[k].2.length ≤ 1048576 := fun k hk => by
  have := (h.of k hk).len
  omega
theorem give_step {seed : Int} {K : Nat} {l : List UInt8} {ss : List Sh} (h : Spl seed K l ss) (h1 : 1 ≤ l.length) (h2 : l.length ≤ 64) (hK : K ≤ 12) (hKn : K ≤ ss.length) {f i : Nat} (hi : i < K) {j : Nat} (hj : j < ss.length) (hjf : j = (f + i) % ss.length) :
    ∃ (n : Nat) (S : List Sh) (code : Int) (m : Nat) (l' : List UInt8), ((i + 1 < K ∧ n = i + 1 ∧ S = rotS ss f (i + 1) ∧ code = 0 ∧ m = 0 ∧ l' = []) ∨ (i + 1 = K ∧ n = 0 ∧ S = [] ∧ code = 1 ∧ m = l.length ∧ l' = l)) ∧
      ∀ (A : Option Addr) (c : Nat) (D : Option Addr) (cd : Nat) (W : World), ShR W W.heap.size A i (rotS ss f i) → i ≤ c → Rd W W.heap.size 1 D ss[j].2.length (bC ss[j].2) →
        Calls Try.prog 17 #[.agg #[.int .i64 (K : Int), .int .i64 (dig l), .slice A i c], .agg #[.int .i64 ss[j].1, .slice D ss[j].2.length cd]] W (RetG K (dig l) n S code m l' W) := by
  have h0 : 0 < ss.length := by omega
  have hnx : nxS ss f i = ss[j] := by rw [nxS_eq h0]; simp only [hjf]
  have hlen := (h.of j hj).len
  have hr := h.rot h0 f i (by omega)
  by_cases hlt : i + 1 < K
  · have g := gv_more (f := f) h h1 h2 hK hKn hlt (dig l)
    rw [hnx] at g
    refine ⟨i + 1, rotS ss f (i + 1), 0, 0, [], .inl ⟨hlt, rfl, rfl, rfl, rfl, rfl⟩, fun A c D cd W hA hc hD => ?_⟩
    exact (GiveShare_i K (dig l) A i c (rotS ss f i) ss[j].1 D ss[j].2.length cd ss[j].2 W hA hD hc (by omega) (by omega) (hr.short h2)).mono fun e w' hg => hg.g g.2.1 (rotS_length _ _ _) g.1 g.2.2 rfl
  · have he : i + 1 = K := by omega
    have g := gv_open (f := f) h h1 h2 hK hKn he
    rw [hnx] at g
    refine ⟨0, [], 1, l.length, l, .inr ⟨he, rfl, rfl, rfl, rfl, rfl⟩, fun A c D cd W hA hc hD => ?_⟩
    exact (GiveShare_i K (dig l) A i c (rotS ss f i) ss[j].1 D ss[j].2.length cd ss[j].2 W hA hD hc (by omega) (by omega) (hr.short h2)).mono fun e w' hg => hg.g g.2.1 rfl g.1 g.2.2 rfl
theorem give_again {seed : Int} {K : Nat} {l : List UInt8} {ss : List Sh} (h : Spl seed K l ss) (h1 : 1 ≤ l.length) (h2 : l.length ≤ 64) (hK : K ≤ 12) (hKn : K ≤ ss.length) {f i : Nat} (hi : i + 1 < K) {j : Nat} (hj : j < ss.length) (hjf : j = (f + i) % ss.length) :
    ∃ (n : Nat) (S : List Sh) (m : Nat) (l' : List UInt8),
      ∀ (A : Option Addr) (c : Nat) (D : Option Addr) (cd : Nat) (W : World), ShR W W.heap.size A (i + 1) (rotS ss f (i + 1)) → i + 1 ≤ c → Rd W W.heap.size 1 D ss[j].2.length (bC ss[j].2) →
        Calls Try.prog 17 #[.agg #[.int .i64 (K : Int), .int .i64 (dig l), .slice A (i + 1) c], .agg #[.int .i64 ss[j].1, .slice D ss[j].2.length cd]] W (RetG K (dig l) n S 3 m l' W) := by
  have h0 : 0 < ss.length := by omega
  have hnx : nxS ss f i = ss[j] := by rw [nxS_eq h0]; simp only [hjf]
  have hlen := (h.of j hj).len
  have hr := h.rot h0 f (i + 1) (by omega)
  have g := gv_twice (f := f) h h1 h2 hK hKn hi (dig l)
  rw [hnx] at g
  refine ⟨(gvSh (K : Int) (dig l) (rotS ss f (i + 1)) ss[j].1 ss[j].2).length, gvSh (K : Int) (dig l) (rotS ss f (i + 1)) ss[j].1 ss[j].2, (gvOut (K : Int) (dig l) (rotS ss f (i + 1)) ss[j].1 ss[j].2).length, gvOut (K : Int) (dig l) (rotS ss f (i + 1)) ss[j].1 ss[j].2, fun A c D cd W hA hc hD => ?_⟩
  exact (GiveShare_i K (dig l) A (i + 1) c (rotS ss f (i + 1)) ss[j].1 D ss[j].2.length cd ss[j].2 W hA hD hc (by omega) (by omega) (hr.short h2)).mono fun e w' hg => hg.g rfl rfl g rfl rfl
/-- a box of the call's own that holds a seal, with a code and a secret beside it -/
def GNx (w0 : World) (need sum : Int) (n : Nat) (S : List Sh) (code : Int) (m : Nat) (l : List UInt8) (p q r : Value) (wx : World) : Prop :=
  ∃ g A1 c1 hs B1 cb, p = .pointer (some ⟨g, 0, none⟩) ∧ q = .int .i64 code ∧ r = .slice B1 m cb ∧ w0.heap.size ≤ g ∧ n ≤ c1 ∧ Blk wx g 39 #[.int .i64 need, .int .i64 sum, .slice A1 n c1] ∧ ShO wx w0.heap.size 31 A1 n c1 hs S ∧ Rd wx wx.heap.size 1 B1 m (bC l) ∧ Below w0.heap.size w0 wx
theorem GNx.mk1 {w0 w5 : World} {need sum code : Int} {n m : Nat} {S : List Sh} {l : List UInt8} {A5 B5 : Option Addr} {c5 cb b : Nat} {hs : List (Option Addr × Nat)} (h : Below w0.heap.size w0 w5) (hc : n ≤ c5) (hb : w0.heap.size ≤ b) (hO : ShO w5 b 31 A5 n c5 hs S) (ho : w5.ownsRow b 5 1 (.slice B5 m cb) m (bC l)) :
    GNx w0 need sum n S code m l (.pointer (some ⟨w5.heap.size, 0, none⟩)) (.int .i64 code) (.slice B5 m cb) (w5.alloc (.cells #[.int .i64 need, .int .i64 sum, .slice A5 n c5] 39)) :=
  ⟨_, A5, c5, hs, B5, cb, rfl, rfl, rfl, h.size, hc, Blk.new _ _ _, (ShO.below hO ((Below.refl w5.heap.size w5).alloc (Nat.le_refl _) _)).mono hb, (own_rd ho).up ((Below.refl w5.heap.size w5).alloc (Nat.le_refl _) _), h.alloc h.size _⟩
theorem GNx.mk2 {w0 w5 : World} {need sum code : Int} {n m : Nat} {S : List Sh} {l : List UInt8} {A5 B5 : Option Addr} {c5 cb b g : Nat} {hs : List (Option Addr × Nat)} {cs : Array Value} (h : Below w0.heap.size w0 w5) (hg : w0.heap.size ≤ g) (hb : g < b) (hM : Blk w5 g 39 cs) (hcs : cs = #[.int .i64 0, .int .i64 0, .slice none 0 0]) (hc : n ≤ c5) (hO : ShO w5 b 31 A5 n c5 hs S) (ho : w5.ownsRow b 5 1 (.slice B5 m cb) m (bC l)) :
    GNx w0 need sum n S code m l (.pointer (some ⟨g, 0, none⟩)) (.int .i64 code) (.slice B5 m cb) (((w5.setCell ⟨g, 0, none⟩ (.int .i64 need)).setCell ⟨g, 1, none⟩ (.int .i64 sum)).setCell ⟨g, 2, none⟩ (.slice A5 n c5)) := by
  subst hcs
  refine ⟨g, A5, c5, hs, B5, cb, rfl, rfl, rfl, hg, hc, ((hM.set 0 _).set 1 _).set 2 _, ?_, ?_, ((h.setCell hg _).setCell hg _).setCell hg _⟩
  · exact (((hO.far (p := ⟨g, 0, none⟩) hb _).far (p := ⟨g, 1, none⟩) hb _).far (p := ⟨g, 2, none⟩) hb _).mono (by omega)
  · exact own_rd (ownsRow_setCell_below (ownsRow_setCell_below (ownsRow_setCell_below ho hb _) hb _) hb _)
end Go.Proofs.Ytgkjgaijjihmgaa
