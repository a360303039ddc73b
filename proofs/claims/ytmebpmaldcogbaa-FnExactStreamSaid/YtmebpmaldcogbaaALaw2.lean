/- Walks of the laws on digests, numbers as bytes, streams: each returns true. -/
import Derived.Test.YtmebpmaldcogbaaA5
namespace Go.Proofs.Ytmebpmaldcogbaa
open Go.RowKit Gf
set_option maxRecDepth 100000
set_option maxHeartbeats 400000
theorem fnExactDigest_walk (A : Option Addr) (n c : Nat) (l : List UInt8) (w : World) (hr : Rd w w.heap.size 1 A n (bC l)) : Calls Try.prog 5 #[.slice A n c] w (RetV (.bool true) w) := by
  have hbd := hr.bd
  by_cases hn : 1048576 < n
  · go_enter Try.func5, Try.ntmps5
    go_wp2_with fail
    go_ret
    exact ⟨rfl, Below.refl _ _⟩
  · go_enter Try.func5, Try.ntmps5
    go_wp2_with fail
    refine (toByteS_c A n c l _ hr (by omega)).mono ?_
    rintro e w1 ⟨A1, c1, rfl, hc1, ho1, hb1⟩
    go_wp2_with fail
    refine (Digest_s A1 n c1 l _ _ (own_rd ho1)).mono ?_
    rintro e w1' ⟨rfl, rfl⟩
    go_wp2_with fail
    refine (toByteS_c A n c l _ (hr.up hb1) (by omega)).mono ?_
    rintro e w2 ⟨A2, c2, rfl, hc2, ho2, hb2⟩
    go_wp2_with fail
    refine (Digest_i A2 n c2 l _ _ (own_rd ho2)).mono ?_
    rintro e w2' ⟨rfl, rfl⟩
    have hb02 := then_ hb1 hb2 hb1.size
    go_wp2_with fail
    refine (toByteS_c A n c l _ (hr.up hb02) (by omega)).mono ?_
    rintro e w3 ⟨A3, c3, rfl, hc3, ho3, hb3⟩
    go_wp2_with fail
    refine (eqByteS_c A2 A3 n c2 c3 l _ _ _ ((own_rd ho2).below hb3 (Nat.le_refl _)) (own_rd ho3)).mono ?_
    rintro e w4 ⟨rfl, hb4⟩
    have hb03 := then_ hb02 hb3 hb02.size
    have hb04 := then_ hb03 hb4 hb03.size
    go_wp2_with fail
    go_ret
    exact ⟨rfl, hb04⟩
theorem fnExactPutWide_walk (x : Int) (w : World) (_hx : (Lit.int .i64 x).wf = true) : Calls Try.prog 9 #[.int .i64 x] w (RetV (.bool true) w) := by
  clear _hx
  have hlen : (pw_ x).length ≤ 8 := by unfold pw_; split <;> simp [pwB_length]
  generalize hn : (pw_ x).length = n at hlen
  have HN := hide hn
  have cs : ∀ w, Calls Try.prog 47 #[.int .i64 x] w (RetRow 5 1 n (bC (pw_ x)) w) := fun w => hn ▸ PutWide_s x w
  have ci : ∀ w, Calls Try.prog 48 #[.int .i64 x] w (RetRow 5 1 n (bC (pw_ x)) w) := fun w => hn ▸ PutWide_i x w
  have CS := hide cs
  have CI := hide ci
  clear hn cs ci
  go_enter Try.func9, Try.ntmps9
  go_wp2_with fail
  refine (CS.out _).mono ?_
  rintro e w1 ⟨A1, c1, rfl, hc1, ho1, hb1⟩
  go_wp2_with fail
  refine (CI.out _).mono ?_
  rintro e w2 ⟨A2, c2, rfl, hc2, ho2, hb2⟩
  have hb02 := then_ hb1 hb2 hb1.size
  go_wp2_with fail
  refine (eqByteS_c A2 A1 n c2 c1 _ _ _ _ (own_rd ho2) ((own_rd ho1).below hb2 (Nat.le_refl _))).mono ?_
  rintro e w3 ⟨rfl, hb3⟩
  have hb03 := then_ hb02 hb3 hb02.size
  go_wp2_with fail
  refine (markByteS_c A2 n c2 _ _ _ _ 1 ((Ow.of_own ho2).below hb3 (Nat.le_refl _)) (by omega) (by omega) (by omega)).mono ?_
  rintro e w4 ⟨rfl, ho4, hg4, hs4⟩
  have hb13 : Below w1.heap.size w1 w3 := then_ hb2 hb3 hb2.size
  have hb14 : Below w1.heap.size w1 w4 := hb13.trans hs4.below
  have hb04 := then_ hb1 hb14 hb1.size
  go_wp2_with fail
  refine (heldByteS_c A2 n c2 _ _ 1 ho4.rd (by omega) (by omega) (by omega)).mono ?_
  rintro e w5 ⟨rfl, hb5⟩
  have hb05 := then_ hb04 hb5 hb04.size
  have hb15 := then_ hb14 hb5 hb14.size
  have ho5 := ho4.below hb5 (by rw [hs4.size]; exact hb3.size)
  go_wp2_with fail
  refine (CI.out _).mono ?_
  rintro e w6 ⟨A6, c6, rfl, hc6, ho6, hb6⟩
  have hb06 := then_ hb05 hb6 hb05.size
  have hb16 := then_ hb15 hb6 hb15.size
  have hsz5 : w2.heap.size ≤ w5.heap.size := Nat.le_trans hb3.size (Nat.le_trans (Nat.le_of_eq hs4.size.symm) hb5.size)
  have ho6' := ho5.below hb6 hsz5
  go_wp2_with fail
  refine (eqByteS_c A6 A1 n c6 c1 _ _ _ _ (own_rd ho6) ((own_rd ho1).below hb16 (Nat.le_refl _))).mono ?_
  rintro e w7 ⟨rfl, hb7⟩
  have hb07 := then_ hb06 hb7 hb06.size
  have ho7 := ho6'.below hb7 (Nat.le_trans hsz5 hb6.size)
  go_wp2_with fail
  refine (heldByteS_c A2 n c2 _ _ 1 ho7.rd (by omega) (by omega) (by omega)).mono ?_
  rintro e w8 ⟨rfl, hb8⟩
  have hb08 := then_ hb07 hb8 hb07.size
  go_wp2_with fail
  go_ret
  exact ⟨rfl, hb08⟩
theorem fnExactStream_walk (x y z : Int) (w : World) (_hx : (Lit.int .i64 x).wf = true) (_hy : (Lit.int .i64 y).wf = true) (_hz : (Lit.int .i64 z).wf = true) : Calls Try.prog 12 #[.int .i64 x, .int .i64 y, .int .i64 z] w (RetV (.bool true) w) := by
  clear _hx _hy _hz
  have hlen : (sm_ x y z).length ≤ 2000 := by
    unfold sm_
    split
    · rename_i h
      have := inB_true.1 (Bool.and_eq_true_iff.1 h).2
      rw [smB_length]; omega
    · simp
  generalize hn : (sm_ x y z).length = n at hlen
  have HN := hide hn
  have cs : ∀ w, Calls Try.prog 56 #[.int .i64 x, .int .i64 y, .int .i64 z] w (RetRow 5 1 n (bC (sm_ x y z)) w) := fun w => hn ▸ Stream_s x y z w
  have ci : ∀ w, Calls Try.prog 57 #[.int .i64 x, .int .i64 y, .int .i64 z] w (RetRow 5 1 n (bC (sm_ x y z)) w) := fun w => hn ▸ Stream_i x y z w
  have CS := hide cs
  have CI := hide ci
  clear hn cs ci
  go_enter Try.func12, Try.ntmps12
  go_wp2_with fail
  refine (CS.out _).mono ?_
  rintro e w1 ⟨A1, c1, rfl, hc1, ho1, hb1⟩
  go_wp2_with fail
  refine (CI.out _).mono ?_
  rintro e w2 ⟨A2, c2, rfl, hc2, ho2, hb2⟩
  have hb02 := then_ hb1 hb2 hb1.size
  go_wp2_with fail
  refine (eqByteS_c A2 A1 n c2 c1 _ _ _ _ (own_rd ho2) ((own_rd ho1).below hb2 (Nat.le_refl _))).mono ?_
  rintro e w3 ⟨rfl, hb3⟩
  have hb03 := then_ hb02 hb3 hb02.size
  go_wp2_with fail
  refine (markByteS_c A2 n c2 _ _ _ _ 1 ((Ow.of_own ho2).below hb3 (Nat.le_refl _)) (by omega) (by omega) (by omega)).mono ?_
  rintro e w4 ⟨rfl, ho4, hg4, hs4⟩
  have hb13 : Below w1.heap.size w1 w3 := then_ hb2 hb3 hb2.size
  have hb14 : Below w1.heap.size w1 w4 := hb13.trans hs4.below
  have hb04 := then_ hb1 hb14 hb1.size
  go_wp2_with fail
  refine (heldByteS_c A2 n c2 _ _ 1 ho4.rd (by omega) (by omega) (by omega)).mono ?_
  rintro e w5 ⟨rfl, hb5⟩
  have hb05 := then_ hb04 hb5 hb04.size
  have hb15 := then_ hb14 hb5 hb14.size
  have ho5 := ho4.below hb5 (by rw [hs4.size]; exact hb3.size)
  go_wp2_with fail
  refine (CI.out _).mono ?_
  rintro e w6 ⟨A6, c6, rfl, hc6, ho6, hb6⟩
  have hb06 := then_ hb05 hb6 hb05.size
  have hb16 := then_ hb15 hb6 hb15.size
  have hsz5 : w2.heap.size ≤ w5.heap.size := Nat.le_trans hb3.size (Nat.le_trans (Nat.le_of_eq hs4.size.symm) hb5.size)
  have ho6' := ho5.below hb6 hsz5
  go_wp2_with fail
  refine (eqByteS_c A6 A1 n c6 c1 _ _ _ _ (own_rd ho6) ((own_rd ho1).below hb16 (Nat.le_refl _))).mono ?_
  rintro e w7 ⟨rfl, hb7⟩
  have hb07 := then_ hb06 hb7 hb06.size
  have ho7 := ho6'.below hb7 (Nat.le_trans hsz5 hb6.size)
  go_wp2_with fail
  refine (heldByteS_c A2 n c2 _ _ 1 ho7.rd (by omega) (by omega) (by omega)).mono ?_
  rintro e w8 ⟨rfl, hb8⟩
  have hb08 := then_ hb07 hb8 hb07.size
  go_wp2_with fail
  go_ret
  exact ⟨rfl, hb08⟩
end Go.Proofs.Ytmebpmaldcogbaa
