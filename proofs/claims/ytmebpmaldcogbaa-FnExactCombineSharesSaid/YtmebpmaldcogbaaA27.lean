/- Shares that fit: what the reference's function gives. -/
import Derived.Test.YtmebpmaldcogbaaA26
namespace Go.Proofs.Ytmebpmaldcogbaa
open Go.RowKit Gf
set_option maxRecDepth 100000
set_option maxHeartbeats 1000000
theorem FitShares_s (A : Option Addr) (n c : Nat) (ss : List Sh) (k : Int) (w : World) (hr : ShR w w.heap.size A n ss) :
    Calls Try.prog 90 #[.slice A n c, .int .i64 k] w (RetV (.bool (ftOk ss k)) w) := by
  have hln := hr.1
  subst hln
  have hbd := hr.bd
  have HCS := hide (CombineShares_s A ss.length c ss k)
  cases hok : cbOk ss k
  · have hE : Hid (ftOk ss k = false) := by show ftOk ss k = false; unfold ftOk; rw [hok]; rfl
    rw [hok] at HCS
    clear hok
    go_enter Try.func90, Try.ntmps90
    go_wp2_with fail
    refine (HCS.out _ hr).mono ?_
    rintro e w1 ⟨A1, c1, rfl, _, _, hb1⟩
    go_wp2_with fail
    go_ret
    exact ⟨by rw [hE.out]; rfl, hb1⟩
  · obtain ⟨h1, h2, h3, h4⟩ := cb_true hok
    rw [hok] at HCS
    obtain ⟨k1, k2⟩ := inB_true.1 h1
    obtain ⟨K, rfl⟩ := Int.eq_ofNat_of_zero_le (show 0 ≤ k by omega)
    have hE : Hid (ftOk ss (K : Int) = fitB ss K) := by show ftOk ss (K : Int) = _; unfold ftOk; rw [hok]; rfl
    have hOK := ok_of_alike h4
    have hL64 := hOK.L
    have HOK := hide hOK
    have hKn : K ≤ ss.length := by omega
    have hX : Hid (∀ j, j < ss.length → xN ss j < 256) := fun j hj => (hOK.n hj).2.1
    have hLL : Hid (lenS ss = lenS ss) := rfl
    clear h4 hok h1
    generalize hL : lenS ss = L at hOK hL64 HOK
    have HL := hide hL
    clear hL hLL
    go_enter Try.func90, Try.ntmps90
    go_wp2_with fail
    refine (HCS.out _ hr).mono ?_
    rintro e w1 ⟨A1, c1, rfl, _, _, hb1⟩
    clear hOK
    go_wp2_with fail
    go_loopw [7, 8] (fun sv _ wr => ∃ s : Nat, K ≤ s ∧ s ≤ ss.length ∧ sv = .int .i64 s ∧ Below w.heap.size w wr ∧ ∀ t, K ≤ t → t < s → fitAt ss K t = true) (fun sv _ _ => ss.length - (intOf sv).toNat)
    case atStart => exact ⟨K, by omega, hKn, rfl, hb1, fun t h1 h2 => by omega⟩
    case round =>
      obtain ⟨s, hKs, hs, rfl, hB, hall⟩ := hrel
      have HA := hide hall
      clear hall
      obtain ⟨wo, rfl⟩ : ∃ wo : World, wo = wr := ⟨_, rfl⟩
      by_cases hsn : s < ss.length
      · have HB := hide hB
        have hr1 := hr.up hB
        clear hB
        go_wp2_with fail
        go_loopw [8] (fun iv wr => ∃ i : Nat, i ≤ L ∧ iv = .int .i64 i ∧ Below wo.heap.size wo wr ∧ ∀ p, p < i → vl ss K (xN ss s) p K = dN ss s p) (fun iv _ => L - (intOf iv).toNat)
        case atStart => exact ⟨0, by omega, rfl, Below.refl _ _, fun p hp => by omega⟩
        case round =>
          obtain ⟨i, hi, rfl, hB, hall⟩ := hrel
          have HP := hide hall
          clear hall
          have hr2 := hr1.up hB
          obtain ⟨b, off, rfl, hblt, hl, Ak, ck, hx, hd, hrd⟩ := hr2.at_ hsn
          have hlL := HOK.out.l s hl
          rw [hlL] at hd hrd
          rw [(HOK.out.n hl).1] at hx
          have hx256 := hX.out s hsn
          have HLL := hide hlL
          have s0 : (0 : Int) ≤ (s : Int) := by omega
          have s1 : (s : Int) < (ss.length : Int) := by omega
          by_cases hiL : i < L
          · obtain ⟨bd, offd, rfl, hbd, hl2, hcd⟩ := hrd.byte hiL
            have hdN := dN_eq hl (p := i) (by omega)
            have hd256 := dN_lt ss s i
            rw [← hdN] at hcd
            have i0 : (0 : Int) ≤ (i : Int) := by omega
            have i1 : (i : Int) < (L : Int) := by omega
            have hw : IntKind.i64.wrap ((dN ss s i : Nat) : Int) = ((dN ss s i : Nat) : Int) := by rw [IntKind.wrap_i64]; omega
            have qx := fun x : After wr.heap.size wr => x.cell hx hblt
            have qd := fun x : After wr.heap.size wr => x.cell hd hblt
            have qb := fun x : After wr.heap.size wr => x.cell hcd hbd
            have HR := hide hr2
            have HN := hide (fun (W : World) (hW : ShR W W.heap.size (some ⟨b, off, none⟩) ss.length ss) => l03At_c (some ⟨b, off, none⟩) ss.length c ss L K i (xN ss s) W hW HOK.out hKn h3 hiL hx256)
            clear hlL hrd hdN hl2 hr2 hx hcd
            cases hq : (((vl ss K (xN ss s) i K : Nat) : Int) == ((dN ss s i : Nat) : Int))
            · have hq2 : (((vl ss K (xN ss s) i K : Nat) : Int) != ((dN ss s i : Nat) : Int)) = true := by rw [bne, hq]; rfl
              have hF : Hid (fitB ss K = false) := fit_false hKs hsn (fitAt_false HOK.out HL.out.symm hsn hiL (by
                intro e
                rw [e] at hq
                simp at hq))
              have HQ := hide hq
              clear hq
              go_wp2_with fail
              refine wp_region_after wr.heap.size (by kernel_rfl) (by kernel_rfl) ?_
              repeat (go_big_quiet_step ((go_at_call 121; exact after_of (Nat.le_refl _) (HN.out _ (After.shr _ HR.out (Nat.le_refl _) (Nat.le_refl _))))))
              refine wpQuiet_nil ?_
              rintro w2 ⟨x_w2, e_w2⟩
              have hb2 := x_w2.below
              rw [← e_w2] at hb2
              clear e_w2 x_w2
              have hB2 := then_ HB.out (then_ hB hb2 hB.size) HB.out.size
              clear qx qd qb hw hd
              go_wp2_with fail
              go_ret
              exact ⟨by rw [hE.out, hF.out]; rfl, hB2⟩
            · have hq2 : (((vl ss K (xN ss s) i K : Nat) : Int) != ((dN ss s i : Nat) : Int)) = false := by rw [bne, hq]; rfl
              have HQ : Hid (vl ss K (xN ss s) i K = dN ss s i) := by
                have : ((vl ss K (xN ss s) i K : Nat) : Int) = ((dN ss s i : Nat) : Int) := by simpa using hq
                show vl ss K (xN ss s) i K = dN ss s i
                omega
              clear hq
              go_wp2_with fail
              refine wp_region_after wr.heap.size (by kernel_rfl) (by kernel_rfl) ?_
              repeat (go_big_quiet_step ((go_at_call 121; exact after_of (Nat.le_refl _) (HN.out _ (After.shr _ HR.out (Nat.le_refl _) (Nat.le_refl _))))))
              refine wpQuiet_nil ?_
              rintro w2 ⟨x_w2, e_w2⟩
              have hb2 := x_w2.below
              rw [← e_w2] at hb2
              clear e_w2 x_w2
              have hB2 := then_ hB hb2 hB.size
              clear qx qd qb hw hd
              go_wp2_with fail
              exact ⟨⟨i + 1, by omega, by go_num, hB2, fun p hp => by
                by_cases e : p = i
                · subst e; exact HQ.out
                · exact HP.out p (by omega)⟩, by simp [intOf]; omega⟩
          · have hiE : i = L := by omega
            subst hiE
            have hF : Hid (fitAt ss K s = true) := fitAt_true HOK.out HL.out.symm hsn HP.out
            have hB2 := then_ HB.out hB HB.out.size
            clear hrd hr2 hlL
            go_wp2_with fail
            exact ⟨⟨s + 1, by omega, by omega, by go_num, hB2, fun t h1 h2 => by
              by_cases e : t = s
              · subst e; exact hF.out
              · exact HA.out t h1 (by omega)⟩, by simp [intOf]; omega⟩
      · have hF : Hid (fitB ss K = true) := fit_true fun t h1 h2 => HA.out t h1 (by omega)
        go_wp2_with fail
        go_ret
        exact ⟨by rw [hE.out, hF.out]; rfl, hB⟩
end Go.Proofs.Ytmebpmaldcogbaa
