/- Combining shares, shares that fit: what the program's functions give. -/
import Derived.Test.YtgkjgaijjihmgaaA27
import Derived.Test.YtgkjgaijjihmgaaA28
namespace Go.Proofs.Ytgkjgaijjihmgaa
open Go.RowKit Gf
set_option maxRecDepth 100000
set_option maxHeartbeats 1000000
theorem areShares_c (A : Option Addr) (n c : Nat) (ss : List Sh) (k : Int) (w : World) (hr : ShR w w.heap.size A n ss) (hnc : n ≤ c) :
    Calls Try.prog 45 #[.slice A n c, .int .i64 k] w (RetV (.bool (cbOk ss k)) w) := by
  have hln := hr.1
  subst hln
  have hbd := hr.bd
  have hE : Hid (cbOk ss k = (inB k 1 12 && inB ss.length k 12 && alikeB ss)) := by
    show cbOk ss k = _
    unfold cbOk inB
    rw [Bool.eq_iff_iff]
    simp
    omega
  have HA := hide (areAlike_c A ss.length c ss)
  cases h1 : inB k 1 12
  · rw [h1] at hE
    go_enter Try.func45, Try.ntmps45
    go_wp2_with (go_at_call 41; refine (within_c _ _ _ _).mono ?_; rintro e w' ⟨rfl, rfl⟩)
    go_ret
    exact ⟨by rw [hE.out]; rfl, Below.refl _ _⟩
  · cases h2 : inB ss.length k 12
    · rw [h1, h2] at hE
      go_enter Try.func45, Try.ntmps45
      go_wp2_with (go_at_call 41; refine (within_c _ _ _ _).mono ?_; rintro e w' ⟨rfl, rfl⟩)
      go_ret
      exact ⟨by rw [hE.out]; rfl, Below.refl _ _⟩
    · rw [h1, h2] at hE
      go_enter Try.func45, Try.ntmps45
      go_wp2_with (go_at_call 41; refine (within_c _ _ _ _).mono ?_; rintro e w' ⟨rfl, rfl⟩)
      refine (HA.out _ hr hnc).mono ?_
      rintro e1 w1 ⟨rfl, hb1⟩
      go_wp2_with fail
      go_ret
      exact ⟨by rw [hE.out]; rfl, hb1⟩
theorem CombineShares_i (A : Option Addr) (n c : Nat) (ss : List Sh) (k : Int) (w : World) (hr : ShR w w.heap.size A n ss) (hnc : n ≤ c) :
    Calls Try.prog 12 #[.slice A n c, .int .i64 k] w (RetB2 (cbR ss k) (cbOk ss k) w) := by
  have hln := hr.1
  subst hln
  have HAS := hide (areShares_c A ss.length c ss k)
  cases hok : cbOk ss k
  · rw [cb_no hok]
    rw [hok] at HAS
    clear hok
    go_enter Try.func12, Try.ntmps12
    go_wp2_with fail
    refine (HAS.out _ hr hnc).mono ?_
    rintro e1 w1 ⟨rfl, hb1⟩
    go_wp2_with fail
    go_ret2
    exact ⟨_, _, rfl, Nat.le_refl _, World.ownsRow_nil _ _ _ _, hb1⟩
  · rw [cb_yes hok]
    rw [hok] at HAS
    obtain ⟨h1, h2, h3, h4⟩ := cb_true hok
    clear hok
    obtain ⟨k1, k2⟩ := inB_true.1 h1
    obtain ⟨K, rfl⟩ := Int.eq_ofNat_of_zero_le (show 0 ≤ k by omega)
    simp only [Int.toNat_natCast]
    have hOK := ok_of_alike h4
    have hKc : (K : Int) ≤ (c : Int) := by omega
    have HV := hide (fun (W : World) (hW : ShR W W.heap.size A ss.length ss) => valuesAt_c A ss.length K c ss (lenS ss) 0 W hW (by omega) (by omega) h3 hOK (by omega))
    have HL := hide (accB_length ss K 0 (lenS ss) K)
    clear h1 h2 h4 hOK
    generalize lenS ss = L at *
    go_enter Try.func12, Try.ntmps12
    go_wp2_with fail
    refine (HAS.out _ hr hnc).mono ?_
    rintro e1 w1 ⟨rfl, hb1⟩
    go_wp2_with fail
    refine (HV.out _ (hr.up hb1)).mono ?_
    rintro e1 w2 ⟨A2, c2, rfl, hc2, ho2, hb2⟩
    have hz := hb1.size
    have hB := then_ hb1 hb2 hb1.size
    go_wp2_with fail
    go_ret2
    exact ⟨_, _, by rw [HL.out]; rfl, by rw [HL.out]; exact hc2, by rw [HL.out]; exact own_mono ho2 hz, hB⟩
theorem FitShares_i (A : Option Addr) (n c : Nat) (ss : List Sh) (k : Int) (w : World) (hr : ShR w w.heap.size A n ss) (hnc : n ≤ c) :
    Calls Try.prog 14 #[.slice A n c, .int .i64 k] w (RetV (.bool (ftOk ss k)) w) := by
  have hln := hr.1
  subst hln
  have HAS := hide (areShares_c A ss.length c ss k)
  cases hok : cbOk ss k
  · have hE : Hid (ftOk ss k = false) := by show ftOk ss k = false; unfold ftOk; rw [hok]; rfl
    rw [hok] at HAS
    clear hok
    go_enter Try.func14, Try.ntmps14
    go_wp2_with fail
    refine (HAS.out _ hr hnc).mono ?_
    rintro e1 w1 ⟨rfl, hb1⟩
    go_wp2_with fail
    go_ret
    exact ⟨by rw [hE.out]; rfl, hb1⟩
  · rw [hok] at HAS
    obtain ⟨h1, h2, h3, h4⟩ := cb_true hok
    obtain ⟨k1, k2⟩ := inB_true.1 h1
    obtain ⟨K, rfl⟩ := Int.eq_ofNat_of_zero_le (show 0 ≤ k by omega)
    have hE : Hid (ftOk ss (K : Int) = fitB ss K) := by show ftOk ss (K : Int) = _; unfold ftOk; rw [hok]; rfl
    have hOK := ok_of_alike h4
    have HOK := hide hOK
    have hKc : (K : Int) ≤ (c : Int) := by omega
    have hKn : K ≤ ss.length := by omega
    have hKn2 : (K : Int) ≤ (ss.length : Int) := by omega
    have HV := hide (fun (x : Nat) (W : World) (hW : ShR W W.heap.size A ss.length ss) (hx : x < 256) => valuesAt_c A ss.length K c ss (lenS ss) x W hW (by omega) (by omega) h3 hOK hx)
    have hX : Hid (∀ j, j < ss.length → xN ss j < 256) := fun j hj => (hOK.n hj).2.1
    have hL64 := hOK.L
    generalize hLL : lenS ss = L at *
    have HLL := hide hLL
    clear h1 h2 h4 hOK hok hLL
    obtain ⟨b, off, rfl, hblt, _, _, _, _, _, _⟩ := hr.at_ (k := 0) (by omega)
    by_cases hKe : K = ss.length
    · have hF : Hid (fitB ss K = true) := fit_true fun t h1 h2 => by omega
      subst hKe
      by_cases hcc : ss.length = c
      · subst hcc
        go_enter Try.func14, Try.ntmps14
        go_wp2_with fail
        refine (HAS.out _ hr hnc).mono ?_
        rintro e1 w1 ⟨rfl, hb1⟩
        go_wp2_with fail
        go_loop [6, 15] (fun _ i => i = .int .i64 0) (fun _ _ => 0)
        case atStart => rfl
        case round =>
          obtain rfl := hrel
          go_wp2_with fail
          go_ret
          exact ⟨by rw [hE.out, hF.out]; rfl, hb1⟩
      · have hcc2 : (ss.length : Int) < (c : Int) := by omega
        go_enter Try.func14, Try.ntmps14
        go_wp2_with fail
        refine (HAS.out _ hr hnc).mono ?_
        rintro e1 w1 ⟨rfl, hb1⟩
        go_wp2_with fail
        go_loop [6, 15] (fun _ i => i = .int .i64 0) (fun _ _ => 0)
        case atStart => rfl
        case round =>
          obtain rfl := hrel
          go_wp2_with fail
          go_ret
          exact ⟨by rw [hE.out, hF.out]; rfl, hb1⟩
    · have hKlt : K < ss.length := by omega
      have hKc2 : (K : Int) < (c : Int) := by omega
      have hKc3 : ¬ (K = c) := by omega
      go_enter Try.func14, Try.ntmps14
      go_wp2_with fail
      refine (HAS.out _ hr hnc).mono ?_
      rintro e1 w1 ⟨rfl, hb1⟩
      go_wp2_with fail
      go_loopw [6, 15] (fun _ iv wr => ∃ j : Nat, K + j ≤ ss.length ∧ iv = .int .i64 j ∧ Below w.heap.size w wr ∧ ∀ t, K ≤ t → t < K + j → fitAt ss K t = true) (fun _ iv _ => ss.length - K - (intOf iv).toNat)
      case atStart => exact ⟨0, by omega, rfl, hb1, fun t h1 h2 => by omega⟩
      case round =>
        obtain ⟨j, hj, rfl, hB, hall⟩ := hrel
        have HA := hide hall
        clear hall
        by_cases hjn : K + j < ss.length
        · have hr1 := hr.up hB
          obtain ⟨b2, off2, e, hb2, hl, A1, c1, hx, hd, hrd⟩ := hr1.at_ (k := K + j) (by omega)
          injection e with e
          injection e with e1 e2
          subst e1; subst e2
          have hlL := HOK.out.l (K + j) hl
          rw [hlL] at hd hrd
          rw [(HOK.out.n hl).1] at hx
          have hx256 := hX.out (K + j) hjn
          rw [show off + (K + j) * 2 = off + K * 2 + j * 2 from by omega] at hx hd
          have hFA : Hid (fitAt ss K (K + j) = (accB ss K (xN ss (K + j)) L K == ss[K + j].2)) := by
            show fitAt ss K (K + j) = _
            unfold fitAt
            rw [List.getElem?_eq_getElem hl, HLL.out]
            rfl
          have HR := hide hr1
          have HD := hide hrd
          have j0 : (0 : Int) ≤ (j : Int) := by omega
          have j1 : (j : Int) < (ss.length : Int) - (K : Int) := by omega
          clear hlL hrd hr1
          cases hq : (accB ss K (xN ss (K + j)) L K == ss[K + j].2)
          · rw [hq] at hFA
            have hF : Hid (fitB ss K = false) := fit_false (s := K + j) (by omega) hjn hFA.out
            go_wp2_with fail
            have N := (Blk.new wr 31 #[.int .i64 ((xN ss (K + j) : Nat) : Int), .slice A1 L c1]).drew
            have hbq : Below wr.heap.size wr (wr.alloc (.cells #[.int .i64 ((xN ss (K + j) : Nat) : Int), .slice A1 L c1] 31)).drew := (by repeat (first | with_reducible exact Below.refl _ _ | with_reducible assumption | refine Below.alloc ?_ (by first | omega | (simp; done) | (simp; omega)) _ | refine Below.setCell ?_ (by first | omega | (simp; done) | (simp; omega)) _ | refine Below.drew ?_ | refine below_drewN ?_ _ | exact Below.refl _ _ | assumption))
            first | go_region_held3 (fun w' => w'.cell? ⟨wr.heap.size, 0, none⟩ = some (.int .i64 ((xN ss (K + j) : Nat) : Int)) ∧ w'.cell? ⟨wr.heap.size, 1, none⟩ = some (.slice A1 L c1)) (exact ⟨N.cell 0, N.cell 1⟩) (first | (go_at_call 46; refine (HV.out _ _ (HR.out.up hbq) hx256).mono ?_; rintro e2 w3 ⟨A3, c3, rfl, hc3, ho3, hb3⟩; replace hbq := then_ hbq hb3 hbq.size; obtain ⟨N, _, _, _⟩ := N.step hb3) | (go_at_call 47; refine (bytesEqual_c A3 A1 L L c3 c1 _ _ _ _ _ (own_rd ho3) (HD.out.up hbq)).mono ?_; rintro e2 w4 ⟨rfl, rfl⟩)) | fail
            have hB3 := then_ hB hbq hB.size
            go_wp2_with fail
            go_ret
            exact ⟨by rw [hE.out, hF.out]; rfl, hB3⟩
          · rw [hq] at hFA
            go_wp2_with fail
            have N := (Blk.new wr 31 #[.int .i64 ((xN ss (K + j) : Nat) : Int), .slice A1 L c1]).drew
            have hbq : Below wr.heap.size wr (wr.alloc (.cells #[.int .i64 ((xN ss (K + j) : Nat) : Int), .slice A1 L c1] 31)).drew := (by repeat (first | with_reducible exact Below.refl _ _ | with_reducible assumption | refine Below.alloc ?_ (by first | omega | (simp; done) | (simp; omega)) _ | refine Below.setCell ?_ (by first | omega | (simp; done) | (simp; omega)) _ | refine Below.drew ?_ | refine below_drewN ?_ _ | exact Below.refl _ _ | assumption))
            first | go_region_held3 (fun w' => w'.cell? ⟨wr.heap.size, 0, none⟩ = some (.int .i64 ((xN ss (K + j) : Nat) : Int)) ∧ w'.cell? ⟨wr.heap.size, 1, none⟩ = some (.slice A1 L c1)) (exact ⟨N.cell 0, N.cell 1⟩) (first | (go_at_call 46; refine (HV.out _ _ (HR.out.up hbq) hx256).mono ?_; rintro e2 w3 ⟨A3, c3, rfl, hc3, ho3, hb3⟩; replace hbq := then_ hbq hb3 hbq.size; obtain ⟨N, _, _, _⟩ := N.step hb3) | (go_at_call 47; refine (bytesEqual_c A3 A1 L L c3 c1 _ _ _ _ _ (own_rd ho3) (HD.out.up hbq)).mono ?_; rintro e2 w4 ⟨rfl, rfl⟩)) | fail
            have hB3 := then_ hB hbq hB.size
            go_wp2_with fail
            exact ⟨⟨j + 1, by omega, by go_num, hB3, fun t h1 h2 => by
              by_cases e : t = K + j
              · subst e; exact hFA.out
              · exact HA.out t h1 (by omega)⟩, by simp [intOf]; omega⟩
        · have hF : Hid (fitB ss K = true) := fit_true fun t h1 h2 => HA.out t h1 (by omega)
          go_wp2_with fail
          go_ret
          exact ⟨by rw [hE.out, hF.out]; rfl, hB⟩
end Go.Proofs.Ytgkjgaijjihmgaa
