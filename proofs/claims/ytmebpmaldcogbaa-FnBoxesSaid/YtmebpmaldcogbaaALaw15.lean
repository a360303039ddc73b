/- Walk of the law on boxes: it returns true. -/
import Derived.Test.YtmebpmaldcogbaaA31
import Derived.Deep.RegionHeld3
namespace Go.Proofs.Ytmebpmaldcogbaa
open Go.RowKit Gf
set_option maxRecDepth 100000
set_option maxHeartbeats 1000000
theorem fnBoxes_walk (A : Option Addr) (n c : Nat) (l : List UInt8) (w : World) (hr : Rd w w.heap.size 1 A n (bC l)) : Calls Try.prog 24 #[.slice A n c] w (RetV (.bool true) w) := by
  have hbd := hr.bd
  by_cases hn : 1048576 < n
  · go_enter Try.func24, Try.ntmps24
    go_wp2_with (go_at_call 37; refine (big_c _ _ _ _ hbd).mono ?_; rintro e w' ⟨rfl, rfl⟩)
    go_ret
    exact ⟨rfl, Below.refl _ _⟩
  · go_enter Try.func24, Try.ntmps24
    go_wp2_with (go_at_call 37; refine (big_c _ _ _ _ hbd).mono ?_; rintro e w' ⟨rfl, rfl⟩)
    refine (DrawSealBox_c A n c l _ hr (by omega)).mono ?_
    rintro e w1 ⟨k, m, A1, c1, p, rfl, hpl, hpc, ho1, hB⟩
    have s1 := hB.size
    clear hr hn hbd
    cases hok : tagOk k m p.length
    · have cs : ∀ (A : Option Addr) (c : Nat) (w : World), Rd w w.heap.size 1 A p.length (bC p) → Calls Try.prog 79 #[.int .i64 k, .int .i64 m, .slice A p.length c] w (RetBox2 0 [] 0 false w) := by
        intro A c w h
        have h2 := SealBox_s k m A _ c p w h
        obtain ⟨e1, e2, e3⟩ := sb_no hok
        rw [e1, e2, e3, hok] at h2
        exact h2
      have CS := hide cs
      clear cs hok
      go_wp2_with fail
      refine (CS.out A1 c1 _ (own_rd ho1)).mono ?_
      rintro e w2 ⟨A2, c2, rfl, hc2, ho2, hb2⟩
      have hB2 := hB.trans (hb2.mono s1)
      have s2 := hb2.size
      go_wp2_with fail
      go_ret
      exact ⟨rfl, (by repeat (first | with_reducible exact Below.refl _ _ | with_reducible assumption | refine Below.alloc ?_ (by first | omega | (simp; done) | (simp; omega)) _ | refine Below.setCell ?_ (by first | omega | (simp; done) | (simp; omega)) _ | refine Below.drew ?_ | refine below_drewN ?_ _ | exact Below.refl _ _ | assumption))⟩
    · obtain ⟨e1, e2, e3⟩ := sb_yes hok
      obtain ⟨h1, h2, h3⟩ := tag_true hok
      have hxl := xB_length k m p
      have cs : ∀ (A : Option Addr) (c : Nat) (w : World), Rd w w.heap.size 1 A p.length (bC p) → Calls Try.prog 79 #[.int .i64 k, .int .i64 m, .slice A p.length c] w (RetBox3 m (xB k m p) (tagB k m (xB k m p)) true p.length w) := by
        intro A c w h
        have h2 := SealBox_s k m A _ c p w h
        rw [e1, e2, e3, hok] at h2
        exact h2.mono fun e w' h => by unfold RetBox2 at h; rw [hxl] at h; exact h
      have ci : ∀ (A : Option Addr) (c : Nat) (w : World), Rd w w.heap.size 1 A p.length (bC p) → Calls Try.prog 80 #[.int .i64 k, .int .i64 m, .slice A p.length c] w (RetBox3 m (xB k m p) (tagB k m (xB k m p)) true p.length w) := by
        intro A c w h
        have h2 := SealBox_i k m A _ c p w h
        rw [e1, e2, e3, hok] at h2
        exact h2.mono fun e w' h => by unfold RetBox2 at h; rw [hxl] at h; exact h
      have co : ∀ (A : Option Addr) (c : Nat) (w : World), Rd w w.heap.size 1 A p.length (bC (xB k m p)) → Calls Try.prog 87 #[.int .i64 k, .agg #[.int .i64 m, .slice A p.length c, .int .i64 (tagB k m (xB k m p))]] w (RetRow3 p true p.length w) := by
        intro A c w h
        have h2 := OpenBox_i k m (tagB k m (xB k m p)) A _ c _ w h
        have e : obOk k m (tagB k m (xB k m p)) (xB k m p) = true := by unfold obOk; rw [hxl, hok]; simp
        rw [obL, e, if_pos rfl, xB_xB] at h2
        exact h2
      have cf : ∀ (A : Option Addr) (c : Nat) (w : World), Rd w w.heap.size 1 A p.length (bC (xB k m p)) → Calls Try.prog 87 #[.int .i64 k, .agg #[.int .i64 m, .slice A p.length c, .int .i64 (tagB k m (xB k m p) + 1)]] w (RetRow3 [] false 0 w) := by
        intro A c w h
        have h2 := OpenBox_i k m (tagB k m (xB k m p) + 1) A _ c _ w h
        have e : obOk k m (tagB k m (xB k m p) + 1) (xB k m p) = false := by
          unfold obOk; rw [hxl, hok]
          have : (tagB k m (xB k m p) == tagB k m (xB k m p) + 1) = false := by simp; omega
          rw [this]; rfl
        rw [obL, e, if_neg (by simp)] at h2
        exact h2
      have ct : ∀ (w : World), Calls Try.prog 57 #[.int .i64 k, .int .i64 m, .int .i64 (p.length : Int)] w (RetRow 5 1 p.length (bC (smB k m p.length)) w) := by
        intro w
        have h2' := Stream_i k m (p.length : Int) w
        have e : smOk k m (p.length : Int) = true := by unfold smOk; rw [h1, h2]; simp [inB]; omega
        rw [sm_, e, if_pos rfl, Int.toNat_natCast, smB_length] at h2'
        exact h2'
      have htb : 0 ≤ tagB k m (xB k m p) ∧ tagB k m (xB k m p) < 4611686018427387904 := dig_bd _
      have hx : ∀ (j : Nat) (h : j < p.length) (h2 : j < (xB k m p).length) (h3 : j < (smB k m p.length).length), (((xB k m p)[j].toNat : Int) != bits .xor .u8 (p[j].toNat : Int) ((smB k m p.length)[j].toNat : Int)) = false := by
        intro j h h2 h3
        rw [u8x, xB_get]
        simp
      have CS := hide cs
      have CI := hide ci
      have CO := hide co
      have CF := hide cf
      have CT := hide ct
      have HX := hide hx
      clear cs ci co cf ct hx h1 h2 h3 e1 e2 e3 hok
      generalize xB k m p = x at hxl CS CI CO CF HX htb
      generalize tagB k m x = t at htb CS CI CO CF
      generalize smB k m p.length = s at CT HX
      have P1 := Ow.of_own ho1
      clear ho1
      go_wp2_with fail
      refine (CS.out A1 c1 _ P1.rd).mono ?_
      rintro e w2 ⟨A2, c2, rfl, hc2, ho, hb⟩
      have s2 := hb.size
      have hB2 := hB.trans (hb.mono s1)
      have P2 := P1.below hb (Nat.le_refl _)
      have W2 := Ow.of_own ho
      clear ho hb hB P1
      go_wp2_with fail
      have Lw := (Blk.new w2 82 #[.int .i64 m, .slice A2 p.length c2, .int .i64 t])
      have hq : Below w2.heap.size w2 (w2.alloc (.cells #[.int .i64 m, .slice A2 p.length c2, .int .i64 t] 82)) := (by repeat (first | with_reducible exact Below.refl _ _ | with_reducible assumption | refine Below.alloc ?_ (by first | omega | (simp; done) | (simp; omega)) _ | refine Below.setCell ?_ (by first | omega | (simp; done) | (simp; omega)) _ | refine Below.drew ?_ | refine below_drewN ?_ _ | exact Below.refl _ _ | assumption))
      have hz : (w2.alloc (.cells #[.int .i64 m, .slice A2 p.length c2, .int .i64 t] 82)).heap.size = w2.heap.size + 1 := by simp
      generalize w2.alloc (.cells #[.int .i64 m, .slice A2 p.length c2, .int .i64 t] 82) = w3 at Lw hq hz ⊢
      have hB3 := hB2.trans (hq.mono (by omega))
      have P3 := P2.below hq (by omega)
      have W3 := W2.below hq (by omega)
      clear hq hB2 P2 W2
      refine (cpBytes_c A1 _ c1 p _ (P3.rd.mono (by omega)) (by omega)).mono ?_
      rintro e w4 ⟨A4, c4, rfl, hc4, ho, hb⟩
      have s4 := hb.size
      have hB4 := hB3.trans (hb.mono (by omega))
      have P4 := P3.below hb (by omega)
      have W4 := W3.below hb (by omega)
      have Q4 := Ow.of_own ho
      obtain ⟨Lw, qLw, _, _⟩ := Lw.step hb
      clear ho hb hB3 P3 W3
      go_wp2_with fail
      refine (CI.out A4 c4 _ Q4.rd).mono ?_
      rintro e w5 ⟨A5, c5, rfl, hc5, ho, hb⟩
      have s5 := hb.size
      have hB5 := hB4.trans (hb.mono (by omega))
      have P5 := P4.below hb (by omega)
      have W5 := W4.below hb (by omega)
      have G5 := Ow.of_own ho
      obtain ⟨Lw, qLw, _, _⟩ := Lw.step hb
      clear ho hb hB4 P4 W4 Q4
      go_wp2_with fail
      have Lg := (Blk.new w5 82 #[.int .i64 m, .slice A5 p.length c5, .int .i64 t])
      have hq : Below w5.heap.size w5 (w5.alloc (.cells #[.int .i64 m, .slice A5 p.length c5, .int .i64 t] 82)) := (by repeat (first | with_reducible exact Below.refl _ _ | with_reducible assumption | refine Below.alloc ?_ (by first | omega | (simp; done) | (simp; omega)) _ | refine Below.setCell ?_ (by first | omega | (simp; done) | (simp; omega)) _ | refine Below.drew ?_ | refine below_drewN ?_ _ | exact Below.refl _ _ | assumption))
      have hz : (w5.alloc (.cells #[.int .i64 m, .slice A5 p.length c5, .int .i64 t] 82)).heap.size = w5.heap.size + 1 := by simp
      generalize w5.alloc (.cells #[.int .i64 m, .slice A5 p.length c5, .int .i64 t] 82) = w6 at Lg hq hz ⊢
      have hB6 := hB5.trans (hq.mono (by omega))
      have P6 := P5.below hq (by omega)
      have W6 := W5.below hq (by omega)
      have G6 := G5.below hq (by omega)
      clear hq hB5 P5 W5 G5 qLw Lw
      refine (sameBytes_c A5 A2 _ c5 c2 x _ _ _ G6.rd W6.rd).mono ?_
      rintro e w7 ⟨rfl, hb⟩
      have s7 := hb.size
      have hB7 := hB6.trans (hb.mono (by omega))
      have P7 := P6.below hb (by omega)
      have G7 := G6.below hb (by omega)
      obtain ⟨Lg, qLg, _, _⟩ := Lg.step hb
      clear hb hB6 P6 W6 G6
      go_wp2_with fail
      refine (CO.out A5 c5 _ (G7.rd.mono (by omega))).mono ?_
      rintro e w8 ⟨A8, c8, rfl, hc8, ho, hb⟩
      have s8 := hb.size
      have hB8 := hB7.trans (hb.mono (by omega))
      have P8 := P7.below hb (by omega)
      have G8 := G7.below hb (by omega)
      obtain ⟨Lg, qLg, _, _⟩ := Lg.step hb
      have O8 := Ow.of_own ho
      clear hb ho hB7 P7 G7
      go_wp2_with fail
      refine (sameBytes_c A8 A1 _ c8 c1 p _ _ _ O8.rd P8.rd).mono ?_
      rintro e w9 ⟨rfl, hb⟩
      have s9 := hb.size
      have hB9 := hB8.trans (hb.mono (by omega))
      have P9 := P8.below hb (by omega)
      have G9 := G8.below hb (by omega)
      obtain ⟨Lg, qLg, _, _⟩ := Lg.step hb
      clear hb hB8 P8 G8 O8
      go_wp2_with fail
      refine (CT.out _).mono ?_
      rintro e w10 ⟨A10, c10, rfl, hc10, ho, hb⟩
      have s10 := hb.size
      have hB10 := hB9.trans (hb.mono (by omega))
      have P10 := P9.below hb (by omega)
      have G10 := G9.below hb (by omega)
      obtain ⟨Lg, qLg, fLg, _⟩ := Lg.step hb
      have S10 := Ow.of_own ho
      clear hb ho hB9 P9 G9
      go_wp2_with fail
      go_loopw [13] (fun i wr => ∃ j q : Nat, j ≤ p.length ∧ i = .int .i64 j ∧ wr = w10.drewN q) (fun i _ => p.length - (intOf i).toNat)
      case atStart => exact ⟨0, 0, by omega, rfl, rfl⟩
      case round =>
        obtain ⟨j, q, hj, rfl, rfl⟩ := hrel
        by_cases hlt : j < p.length
        · obtain ⟨b, off, rfl, hblt, hl, hc⟩ := P10.rd.byte hlt
          obtain ⟨b', off', rfl, hblt', hl', hc'⟩ := G10.rd.byte hlt
          obtain ⟨b2, off2, rfl, hblt2, hl2, hc2'⟩ := S10.rd.byte hlt
          have e1 := HX.out j hl hl' hl2
          have g1 := qLg 1
          go_wp2_with fail
          go_quiet (fail)
          go_wp2
          exact ⟨⟨j + 1, _, by omega, by go_num, rfl⟩, by simp [intOf]; omega⟩
        · have HB := hide hB10
          have HG := hide G10
          have HL := hide Lg
          have g0 := qLg 0
          have g1 := qLg 1
          have g2 := qLg 2
          clear hB10 P10 G10 S10 Lg qLg
          go_wp2_with fail
          have s11 : ((w10.drewN q).setCell ⟨w5.heap.size, 2, none⟩ (.int .i64 (t + 1))).heap.size = w10.heap.size := by rw [World.size_setCell]; rfl
          have hB11 : Below w.heap.size w ((w10.drewN q).setCell ⟨w5.heap.size, 2, none⟩ (.int .i64 (t + 1))) := by
            have h := HB.out
            exact (by repeat (first | with_reducible exact Below.refl _ _ | with_reducible assumption | refine Below.alloc ?_ (by first | omega | (simp; done) | (simp; omega)) _ | refine Below.setCell ?_ (by first | omega | (simp; done) | (simp; omega)) _ | refine Below.drew ?_ | refine below_drewN ?_ _ | exact Below.refl _ _ | assumption))
          have G11 : Rd ((w10.drewN q).setCell ⟨w5.heap.size, 2, none⟩ (.int .i64 (t + 1))) w5.heap.size 1 A5 p.length (bC x) := by
            have h := HG.out.rd
            have h' : Rd (w10.drewN q) w5.heap.size 1 A5 p.length (bC x) := h
            exact h'.far (by simp) _
          generalize (w10.drewN q).setCell ⟨w5.heap.size, 2, none⟩ (.int .i64 (t + 1)) = w11 at s11 hB11 G11 ⊢
          refine (CF.out A5 c5 _ (G11.mono (by omega))).mono ?_
          rintro e w12 ⟨A12, c12, rfl, hc12, ho, hb⟩
          have hB12 := hB11.trans (hb.mono (by omega))
          clear HB HG HL hb ho hB11 G11
          go_wp2_with fail
          go_ret
          exact ⟨rfl, hB12⟩
end Go.Proofs.Ytmebpmaldcogbaa
