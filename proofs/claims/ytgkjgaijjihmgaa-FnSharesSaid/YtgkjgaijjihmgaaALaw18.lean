/- The law of split shares: it returns true. -/
import Derived.Test.YtgkjgaijjihmgaaA42
import Derived.Test.YtgkjgaijjihmgaaA33
import Derived.Test.YtgkjgaijjihmgaaA31
import Derived.Test.YtgkjgaijjihmgaaA29
import Derived.Test.YtgkjgaijjihmgaaA23
import Derived.Test.YtgkjgaijjihmgaaALaw3
import Derived.Deep.DeepCutAuto
import Derived.Deep.RegionHeld3
import Derived.StillTailTactics
namespace Go.Proofs.Ytgkjgaijjihmgaa
open Go.RowKit Gf
set_option maxRecDepth 100000
set_option maxHeartbeats 4000000
theorem fnShares_walk (A : Option Addr) (n c : Nat) (l : List UInt8) (w : World) (hr : Rd w w.heap.size 1 A n (bC l)) : Calls Try.prog 3 #[.slice A n c] w (RetV (.bool true) w) := by
  have hbd := hr.bd
  by_cases hn : 1048576 < n
  · go_enter Try.func3, Try.ntmps3
    go_wp2_with (go_at_call 6; refine (big_c _ _ _ _ hbd).mono ?_; rintro e w' ⟨rfl, rfl⟩)
    go_ret
    exact ⟨rfl, Below.refl _ _⟩
  · go_enter Try.func3, Try.ntmps3
    go_wp2_with (go_at_call 6; refine (big_c _ _ _ _ hbd).mono ?_; rintro e w' ⟨rfl, rfl⟩)
    refine (DrawSplitSecret_c A n c l _ hr (by omega)).mono ?_
    rintro e w1 ⟨A1, c1, p, N, K, seed, rfl, hpl, hpc, ho1, hB⟩
    have s1 := hB.size
    have HA := hide (hr.up hB)
    have HB1 := hide hB
    clear hr hB hbd
    cases hok : spOk p.length N K seed
    · have cs := SplitSecret_s A1 _ c1 p N K seed w1 (own_rd ho1)
      rw [hok] at cs
      have CS := hide cs
      clear cs hok
      go_wp2_with fail
      refine CS.out.mono ?_
      rintro e w2 ⟨A2, c2, hs2, rfl, hc2, ho2, hb2⟩
      have HB := hide (HB1.out.trans (hb2.mono s1))
      clear ho2 hb2
      go_wp2_with fail
      go_ret
      exact ⟨rfl, HB.out⟩
    · have hk := spOk_true hok
      obtain ⟨Nn, rfl⟩ := Int.eq_ofNat_of_zero_le (show 0 ≤ N by omega)
      obtain ⟨k, rfl⟩ := Int.eq_ofNat_of_zero_le (show 0 ≤ K by omega)
      have cs := SplitSecret_s A1 _ c1 p (Nn : Int) (k : Int) seed w1 (own_rd ho1)
      have ci := fun A' c' W h => SplitSecret_i A' p.length c' p (Nn : Int) (k : Int) seed W h
      have hsp : spR p (Nn : Int) (k : Int) seed = spS seed k Nn p := by rw [sp_yes hok, Int.toNat_natCast, Int.toNat_natCast]
      rw [hok, hsp] at cs
      simp only [hok, hsp] at ci
      have hS : Spl seed k p (spS seed k Nn p) := spS_spl seed k Nn p (by omega)
      have hl := spS_length seed k Nn p
      have p1 : 1 ≤ p.length := hk.1
      have p2 : p.length ≤ 64 := hk.2.1
      have k1 : 1 ≤ k := by omega
      have kN : k ≤ Nn := by omega
      have N12 : Nn ≤ 12 := by omega
      clear hok hsp hk
      generalize spS seed k Nn p = ss at cs ci hS hl
      subst hl
      have CS := hide cs
      have CI := hide ci
      have HS := hide hS
      clear cs ci hS
      go_wp2_with fail
      refine CS.out.mono ?_
      rintro e w2 ⟨A2, c2, hs2, rfl, hc2, ho2, hb2⟩
      have HB2 := hide (HB1.out.trans (hb2.mono s1))
      have HA2 := hide (HA.out.up hb2)
      have HP2 := hide ((own_rd ho1).up hb2)
      clear CS HB1 HA ho1 ho2 hb2 s1
      go_wp2_with fail
      refine (cpBytes_c A1 _ c1 p _ HP2.out (by omega)).mono ?_
      rintro e w3 ⟨A3, c3, rfl, hc3, ho3, hb3⟩
      have HB3 := hide (then_ HB2.out hb3 HB2.out.size)
      have HA3 := hide (HA2.out.up hb3)
      have HP3 := hide (HP2.out.up hb3)
      have HD3 := hide (own_rd ho3)
      clear HB2 HA2 HP2 hb3 ho3
      go_wp2_with fail
      refine (CI.out A3 c3 _ HD3.out).mono ?_
      rintro e wb ⟨A4, c4, hs, rfl, hc4, ho4, hb4⟩
      have HB := hide (then_ HB3.out hb4 HB3.out.size)
      have HA := hide (HA3.out.up hb4)
      have HP := hide (HP3.out.up hb4)
      have HO := hide ho4
      clear HB3 HA3 HP3 HD3 CI hb4 ho4
      go_wp2_with fail
      have hat : ∃ av : Int → Int, (∀ q, 0 ≤ av q ∧ av q < 256) ∧ ∀ (q : Int) (W : World), 0 ≤ q → q ≤ 3 → Below wb.heap.size wb W → Calls Try.prog 11 #[.slice A n c, .int .i64 q] W (Pure (.int .i64 (av q)) W) :=
        ⟨atV l, atV_bd l, fun q W h1 h2 hW => at_c A n c l q W _ (HA.out.below hW (Nat.le_refl _)) (by omega) h1 (by omega)⟩
      obtain ⟨av, avb, hca⟩ := hat
      have CA := hide hca
      have AVB := hide avb
      have HD := hide HO.out.all
      clear hca avb HA
      have n3 : ((ss.length : Int) = 0) = False := by simp; intro h; rw [h] at kN; simp at kN; omega
      have n4 : ((ss.length : Int) == 0) = false := by simp; intro h; rw [h] at kN; simp at kN; omega
      have n5 : (ss = []) = False := by simp; intro h; rw [h] at kN; simp at kN; omega
      have n6 : (ss.length = 0) = False := by simp; intro h; rw [h] at kN; simp at kN; omega
      have N3 := hide n3
      have N4 := hide n4
      have N5 := hide n5
      have N6 := hide n6
      clear n3 n4 n5 n6
      obtain ⟨b, off, rfl, _, hblt, _, _, _, _⟩ := HO.out.at_ (j := 0) (by omega)
      go_loopw [11, 12] (fun v iv wr => ∃ (i : Nat) (A' : Option Addr) (c' : Nat) (zs : List Hz), i ≤ ss.length ∧ iv = .int .i64 i ∧ v = .slice A' i c' ∧ i ≤ c' ∧ Som wr wb.heap.size 31 (hs.zip ss) A' i c' zs ∧ Below wb.heap.size wb wr) (fun _ iv _ => ss.length - (intOf iv).toNat)
      case atStart => exact ⟨0, _, _, [], by omega, rfl, rfl, Nat.le_refl _, ⟨World.ownsRow_made wb #[] 0 (Nat.le_refl _) (by omega) rfl, fun z hz => by cases hz⟩, (by repeat (first | with_reducible exact Below.refl _ _ | with_reducible assumption | refine Below.alloc ?_ (by first | omega | (simp; done) | (simp; omega)) _ | refine Below.setCell ?_ (by first | omega | (simp; done) | (simp; omega)) _ | refine Below.drew ?_ | refine below_drewN ?_ _ | exact Below.refl _ _ | assumption))⟩
      case round =>
        obtain ⟨i, A', c', zs, hi, rfl, rfl, hic, hSo, hBr⟩ := hrel
        by_cases hlt : i < ss.length
        · obtain ⟨b00, b01⟩ := AVB.out 0
          obtain ⟨b10, b11⟩ := AVB.out 1
          obtain ⟨a0, ea0⟩ := Int.eq_ofNat_of_zero_le b00
          obtain ⟨a1, ea1⟩ := Int.eq_ofNat_of_zero_le b10
          obtain ⟨r, hr⟩ : ∃ r, r = a0 % ss.length := ⟨_, rfl⟩
          have hrN : r < ss.length := by rw [hr]; exact Nat.mod_lt _ (by omega)
          obtain ⟨m, hm⟩ : ∃ m, m = i * (1 + r) := ⟨_, rfl⟩
          have hmb : m ≤ 12 * 12 := by rw [hm]; exact Nat.mul_le_mul (by omega) (by omega)
          obtain ⟨s, hs'⟩ : ∃ s, s = m + a1 := ⟨_, rfl⟩
          obtain ⟨j, hj'⟩ : ∃ j, j = s % ss.length := ⟨_, rfl⟩
          have hj : j < ss.length := by rw [hj']; exact Nat.mod_lt _ (by omega)
          obtain ⟨r1, hr1⟩ : ∃ r1, r1 = 1 + r := ⟨_, rfl⟩
          have q1 : Int.tmod (av 0) (ss.length : Int) = (r : Int) := by rw [ea0, hr]; rfl
          have q1' : (av 0) % (ss.length : Int) = (r : Int) := by rw [ea0, hr]; rfl
          have q2 : IntKind.i64.wrap (1 + (r : Int)) = (r1 : Int) := by rw [IntWalk.i64_in _ (by omega)]; omega
          have q3 : IntKind.i64.wrap ((i : Int) * (r1 : Int)) = (m : Int) := by
            have e : (i : Int) * (r1 : Int) = (m : Int) := by rw [hm, hr1]; rfl
            rw [e, IntWalk.i64_in _ (by omega)]
          have q4 : IntKind.i64.wrap ((m : Int) + av 1) = (s : Int) := by rw [IntWalk.i64_in _ (by omega)]; omega
          have q5 : Int.tmod (s : Int) (ss.length : Int) = (j : Int) := by rw [hj']; rfl
          have q5' : (s : Int) % (ss.length : Int) = (j : Int) := by rw [hj']; rfl
          clear hr hm hs' hj' hr1 hmb ea0 ea1
          obtain ⟨hl, hl2, hx0, hd0⟩ := HO.out.get hj
          have hx := cell_old hx0 hBr hblt
          have hdd := cell_old hd0 hBr hblt
          have hszr := hBr.size
          have HX0 := hide hx0
          have HD0 := hide hd0
          have HBr := hide hBr
          have HSo := hide (hSo.below (w' := wr.drew) (by repeat (first | with_reducible exact Below.refl _ _ | with_reducible assumption | refine Below.alloc ?_ (by first | omega | (simp; done) | (simp; omega)) _ | refine Below.setCell ?_ (by first | omega | (simp; done) | (simp; omega)) _ | refine Below.drew ?_ | refine below_drewN ?_ _ | exact Below.refl _ _ | assumption)))
          have n3 := N3.out
          have n4 := N4.out
          have n5 := N5.out
          have n6 := N6.out
          clear hx0 hd0 hBr hSo
          go_upto_region 14 with fail
          go_region_held3 (fun w' => w'.cell? ⟨b, off + j * 2, none⟩ = some (.int .i64 ss[j].1) ∧ w'.cell? ⟨b, off + j * 2 + 1, none⟩ = some (.slice hs[j].1 ss[j].2.length hs[j].2)) (first | exact ⟨cell_old HX0.out hT5 hblt, cell_old HD0.out hT5 hblt⟩ | exact ⟨cell_old (B := wr.heap.size) hx (by repeat (first | with_reducible exact Below.refl _ _ | with_reducible assumption | refine Below.alloc ?_ (by first | omega | (simp; done) | (simp; omega)) _ | refine Below.setCell ?_ (by first | omega | (simp; done) | (simp; omega)) _ | refine Below.drew ?_ | refine below_drewN ?_ _ | exact Below.refl _ _ | assumption)) (Nat.lt_of_lt_of_le hblt hszr), cell_old (B := wr.heap.size) hdd (by repeat (first | with_reducible exact Below.refl _ _ | with_reducible assumption | refine Below.alloc ?_ (by first | omega | (simp; done) | (simp; omega)) _ | refine Below.setCell ?_ (by first | omega | (simp; done) | (simp; omega)) _ | refine Below.drew ?_ | refine below_drewN ?_ _ | exact Below.refl _ _ | assumption)) (Nat.lt_of_lt_of_le hblt hszr)⟩) (first | (go_at_call 11; refine (CA.out _ _ (by decide) (by decide) (HBr.out.trans (Below.mono (B := wr.heap.size) (by repeat (first | with_reducible exact Below.refl _ _ | with_reducible assumption | refine Below.alloc ?_ (by first | omega | (simp; done) | (simp; omega)) _ | refine Below.setCell ?_ (by first | omega | (simp; done) | (simp; omega)) _ | refine Below.drew ?_ | refine below_drewN ?_ _ | exact Below.refl _ _ | assumption)) hszr))).mono ?_; rintro e w5 ⟨rfl, rfl⟩) | (refine step_app1 (by rfl) (.tmp 67) (.tmp 83) 26 (by rfl) wb.heap.size 31 (.agg #[.int .i64 0, .slice none 0 0]) 2 32 Try.underlying26 info40 rfl (by omega) A' i c' _ [.int .i64 ss[j].1, .slice hs[j].1 ss[j].2.length hs[j].2] (by rfl) ⟨_, rfl, Blk.new _ _ _⟩ rfl (by simp [Value.oneCell']) (HSo.out.below ((Below.refl _ _).alloc (Nat.le_refl _) _)).row (by omega) (by omega) (Nat.le_trans hszr (by simp)) ?_; intro A5 c5 w5 hc5 ho5 hg5 _; have hT5 : Below wb.heap.size wb w5 := (HBr.out.trans (Below.mono (B := wr.heap.size) (by repeat (first | with_reducible exact Below.refl _ _ | with_reducible assumption | refine Below.alloc ?_ (by first | omega | (simp; done) | (simp; omega)) _ | refine Below.setCell ?_ (by first | omega | (simp; done) | (simp; omega)) _ | refine Below.drew ?_ | refine below_drewN ?_ _ | exact Below.refl _ _ | assumption)) hszr)).trans hg5) | fail)
          all_goals
            have HS5 := hide (HSo.out.push (z := (hs[j], ss[j])) (zip_get hl2 hl) ho5)
            have HT5 := hide hT5
            clear hx hdd hT5 ho5 hg5 q1 q1' q2 q3 q4 q5 q5' n3 n4 n5 n6
            go_wp2_with fail
            exact ⟨⟨i + 1, A5, c5, _, by omega, by go_num, rfl, hc5, HS5.out, HT5.out⟩, by simp [intOf]; omega⟩
        · obtain rfl : i = ss.length := by omega
          obtain ⟨d, doff, rfl, hBd, _⟩ := hSo.at_ (k := 0) (by omega)
          have HBr := hide hBr
          have HSo := hide hSo
          clear hBr hSo hlt hi
          go_wp2_with fail
          obtain ⟨wo, rfl⟩ : ∃ wo : World, wo = wr := ⟨_, rfl⟩
          go_loopw [13] (fun iv wr => ∃ (i : Nat) (zs : List Hz), i ≤ ss.length ∧ iv = .int .i64 i ∧ Som wr wb.heap.size 31 (hs.zip ss) (some ⟨d, doff, none⟩) ss.length c' zs ∧ Below wb.heap.size wb wr) (fun iv _ => ss.length - (intOf iv).toNat)
          case atStart => exact ⟨0, zs, by omega, rfl, HSo.out, HBr.out⟩
          case round =>
            obtain ⟨i, zs1, hi1, rfl, hS1, hB1⟩ := hrel
            by_cases hlt1 : i < ss.length
            · have HS1 := hide hS1
              have HB1 := hide hB1
              have hd1 : decide ((i : Int) < (ss.length : Int)) = true := by simp; omega
              clear hS1 hB1
              go_wp2_with fail
              obtain ⟨wp, rfl⟩ : ∃ wp : World, wp = wr := ⟨_, rfl⟩
              go_loopw [14] (fun jv wr => ∃ (j : Nat) (zs : List Hz), j ≤ i ∧ jv = .int .i64 j ∧ Som wr wb.heap.size 31 (hs.zip ss) (some ⟨d, doff, none⟩) ss.length c' zs ∧ Below wb.heap.size wb wr) (fun jv _ => i - (intOf jv).toNat)
              case atStart => exact ⟨0, zs1, by omega, rfl, HS1.out, HB1.out⟩
              case round =>
                obtain ⟨j, zs2, hj, rfl, hS2, hB2⟩ := hrel
                by_cases hlt2 : j < i
                · obtain ⟨hl, hl2, hx0, hd0⟩ := HO.out.get hlt1
                  have hx := cell_old hx0 hB2 hblt
                  have hdd := cell_old hd0 hB2 hblt
                  obtain ⟨hli, xi, di, fi, gi⟩ := hS2.get (k := i) hlt1
                  obtain ⟨hlj, xj, dj, fj, gj⟩ := hS2.get (k := j) (by omega)
                  have hzi := zip_get hl2 hl
                  have HZI := hide hzi
                  have HS2 := hide hS2
                  have HB2 := hide hB2
                  clear hx0 hd0 dj fj gj hzi hS2 hB2
                  by_cases he : zs2[i].2.1 = zs2[j].2.1
                  · have e1 : (zs2[i].2.1 == zs2[j].2.1) = true := by simp [he]
                    have HE := hide he
                    clear he
                    go_wp2_with fail
                    go_quiet (fail)
                    go_wp2_with fail
                    exact ⟨⟨j + 1, zs2.set i (hs[i], ss[i]), by omega, by go_num, Som.put (z := (hs[i], ss[i])) (HS2.out.below (below_drewN (Below.refl _ _) _)) hlt1 HZI.out, ((below_drewN HB2.out _).setCell hBd _).setCell hBd _⟩, by simp [intOf]; omega⟩
                  · have e1 : (zs2[i].2.1 == zs2[j].2.1) = false := by simp [he]
                    have HE := hide he
                    clear he
                    go_wp2_with fail
                    go_quiet (fail)
                    go_wp2_with fail
                    exact ⟨⟨j + 1, zs2, by omega, by go_num, HS2.out.below (below_drewN (Below.refl _ _) _), below_drewN HB2.out _⟩, by simp [intOf]; omega⟩
                · have HS2 := hide hS2
                  have HB2 := hide hB2
                  clear hS2 hB2
                  go_wp2_with fail
                  exact ⟨⟨i + 1, zs2, by omega, by go_num, HS2.out, HB2.out⟩, by simp [intOf]; omega⟩
            · have HS1 := hide hS1
              have HB1 := hide hB1
              clear hS1 hB1
              go_upto_region 23 with fail
              have HSs := hide (HO.out.rd.below HB1.out (Nat.le_refl _))
              obtain ⟨y, hy⟩ : ∃ y : Nat, (ss.length : Int) - (k : Int) = (y : Int) := ⟨ss.length - k, by omega⟩
              have hyk : y + k = ss.length := by omega
              have hdr := HS.out.drop y
              have hdl : (ss.drop y).length = k := by rw [List.length_drop]; omega
              have co : ∀ (W : World), ShR W W.heap.size (some ⟨b, off, none⟩) ss.length ss → Calls Try.prog 12 #[.slice (some ⟨b, off + y * 2, none⟩) (ss.length - y) (c4 - y), .int .i64 k] W (RetB2 p true W) := fun W h => by
                have g := CombineShares_i (some ⟨b, off + y * 2, none⟩) (ss.length - y) (c4 - y) (ss.drop y) k W (h.drop (by omega)) (by omega)
                rw [hdr.cbR p1 p2 k1 (by omega) (by omega), hdr.cbOk p1 p2 k1 (by omega) (by omega)] at g
                exact g
              have cf : ∀ (W : World), ShR W W.heap.size (some ⟨b, off, none⟩) ss.length ss → Calls Try.prog 14 #[.slice (some ⟨b, off, none⟩) ss.length c4, .int .i64 k] W (RetV (.bool true) W) := fun W h => by
                have g := FitShares_i (some ⟨b, off, none⟩) ss.length c4 ss k W h hc4
                rw [HS.out.ftOk p1 p2 k1 kN N12] at g
                exact g
              have CO := hide co
              have CF := hide cf
              have HP1 := hide (HP.out.below HB1.out (Nat.le_refl _))
              have HSW := hide (HSs.out.mono HB1.out.size)
              clear co cf hdr hdl hlt1 hi1
              go_wp2_with fail
              refine (CO.out _ HSW.out).mono ?_
              rintro e w5 ⟨A5, c5, rfl, hc5, ho5, hb5⟩
              have HB5 := hide (HB1.out.trans (hb5.mono HB1.out.size))
              have HS5 := hide (HS1.out.below hb5)
              have HP5 := hide (HP1.out.below hb5 HB1.out.size)
              have HK5 := hide (own_rd ho5)
              clear CO HSW HS1 HP1 HB1 HSs ho5 hb5 hy hyk
              go_wp2_with fail
              refine (sameBytes_c A5 A1 _ c5 c1 p _ _ _ HK5.out HP5.out).mono ?_
              rintro e w6 ⟨rfl, hb6⟩
              have HB6 := hide (HB5.out.trans (hb6.mono HB5.out.size))
              have HS6 := hide (HS5.out.below hb6)
              have HSW := hide ((HO.out.rd.below HB6.out (Nat.le_refl _)).mono HB6.out.size)
              clear HB5 HS5 HP5 HK5 hb6
              go_wp2_with fail
              refine (CF.out _ HSW.out).mono ?_
              rintro e w7 ⟨rfl, hb7⟩
              have HB7 := hide (HB6.out.trans (hb7.mono HB6.out.size))
              have HS7 := hide (HS6.out.below hb7)
              have HM7 := hide (HS7.out.shr HD.out HB7.out HB7.out.size)
              clear HB6 HS6 HSW hb7 CF
              have HMC := hide (fun h => some_of (zs := zs1) HS.out k1 HS7.out.mem h)
              have CM := hide fun (W : World) (h : ShR W W.heap.size (some ⟨d, doff, none⟩) ss.length (zs1.map fun z => z.2)) => CombineShares_i (some ⟨d, doff, none⟩) ss.length c' (zs1.map fun z => z.2) k W h hic
              have CN := hide (CombineShares_s (some ⟨d, doff, none⟩) ss.length c' (zs1.map fun z => z.2) k w7 HM7.out)
              generalize cbOk (zs1.map fun z => z.2) (k : Int) = ok at HMC CM CN
              generalize cbR (zs1.map fun z => z.2) (k : Int) = sec at HMC CM CN
              generalize (zs1.map fun z => z.2) = sm at HM7 CM
              go_wp2_with fail
              refine CN.out.mono ?_
              rintro e w8 ⟨A8, c8, rfl, _, _, hb8⟩
              have HB8 := hide (HB7.out.trans (hb8.mono HB7.out.size))
              have HM8 := hide (HM7.out.up hb8)
              clear HS7 HB7 HM7 CN hb8
              go_upto_if 143 with fail
              go_cut [] (fun wx => Below w8.heap.size w8 wx)
              case first =>
                cases ok
                · clear HMC CM HM8
                  go_wp2_with fail
                  go_meet
                  exact Below.refl _ _
                · have cm := CM.out
                  rw [HMC.out rfl] at cm
                  have CM2 := hide cm
                  have HP8 := hide (HP.out.below HB8.out (Nat.le_refl _))
                  clear cm HMC CM
                  go_wp2_with fail
                  refine (CM2.out _ HM8.out).mono ?_
                  rintro e w9 ⟨A9, c9, rfl, hc9, ho9, hb9⟩
                  have HB9 := hide hb9
                  have HK9 := hide (own_rd ho9)
                  have HP9 := hide (HP8.out.below hb9 HB8.out.size)
                  clear CM2 HM8 HP8 ho9 hb9
                  go_wp2_with fail
                  refine (sameBytes_c A9 A1 _ c9 c1 p _ _ _ HK9.out HP9.out).mono ?_
                  rintro e w10 ⟨rfl, hb10⟩
                  have HB10 := hide (then_ HB9.out hb10 HB9.out.size)
                  clear HK9 HP9 hb10 HB9
                  go_wp2_with fail
                  go_meet
                  exact HB10.out
              case rest =>
                have HBc := hide (HB8.out.trans (hcut.mono HB8.out.size))
                clear HM8 HMC CM HB8 hcut
                by_cases hnk : ss.length = k
                · have hnk' : ((ss.length : Int) == (k : Int)) = true := by simp; exact_mod_cast hnk
                  have HBB := hide (then_ HB.out (HBc.out) HB.out.size)
                  clear hnk
                  go_wp2_with fail
                  go_ret
                  exact ⟨rfl, HBB.out⟩
                · have hnk' : ((ss.length : Int) == (k : Int)) = false := by simp; omega
                  have hnk2 : k < ss.length := by omega
                  clear hnk
                  go_wp2_with fail
                  clear hnk'
                  go_loopw [21, 22] (fun v iv wr => ∃ (i : Nat) (A' : Option Addr) (c' : Nat) (hs' : List (Option Addr × Nat)), i ≤ ss.length ∧ iv = .int .i64 i ∧ v = .slice A' i c' ∧ i ≤ c' ∧ ShO wr wc.heap.size 31 A' i c' hs' (ss.take i) ∧ Below wc.heap.size wc wr) (fun _ iv _ => ss.length - (intOf iv).toNat)
                  case atStart => exact ⟨0, _, _, [], by omega, rfl, rfl, Nat.le_refl _, ⟨rfl, World.ownsRow_made wc #[] 0 (Nat.le_refl _) (by omega) rfl, fun k h => absurd h (by simp), fun i j hi => absurd hi (by simp)⟩, (by repeat (first | with_reducible exact Below.refl _ _ | with_reducible assumption | refine Below.alloc ?_ (by first | omega | (simp; done) | (simp; omega)) _ | refine Below.setCell ?_ (by first | omega | (simp; done) | (simp; omega)) _ | refine Below.drew ?_ | refine below_drewN ?_ _ | exact Below.refl _ _ | assumption))⟩
                  case round =>
                    obtain ⟨i6, A6, c6, hs6, hi6, rfl, rfl, hic6, hO6, hB6⟩ := hrel
                    by_cases hlt6 : i6 < ss.length
                    · obtain ⟨hl, hl2, hx00, hd00⟩ := HO.out.get hlt6
                      have hbl6 := Nat.lt_of_lt_of_le hblt HBc.out.size
                      have hx0 := cell_old hx00 HBc.out hblt
                      have hd0 := cell_old hd00 HBc.out hblt
                      have hx := cell_old hx0 hB6 hbl6
                      have hdd := cell_old hd0 hB6 hbl6
                      have hsz := hB6.size
                      have hdl : ss[i6].2.length = p.length := (HS.out.of i6 hl).len
                      have HDL := hide hdl
                      have HRD : Hid (Rd wr.drew wr.drew.heap.size 1 hs[i6].1 ss[i6].2.length (bC ss[i6].2)) := (((HD.out _ (zip_get hl2 hl)).below HBc.out (Nat.le_refl _)).below hB6 HBc.out.size).mono (Nat.le_trans HBc.out.size hsz)
                      have HBr := hide hB6
                      have HO6 := hide hO6
                      have HX := hide hx0
                      have HD0 := hide hd0
                      have hd64 : ss[i6].2.length ≤ 64 := by omega
                      clear hO6 hB6 hx0 hd0 hx00 hd00 hdl
                      go_upto_region 37 with fail
                      go_region_held3 (fun w' => w'.cell? ⟨b, off + i6 * 2, none⟩ = some (.int .i64 ss[i6].1) ∧ w'.cell? ⟨b, off + i6 * 2 + 1, none⟩ = some (.slice hs[i6].1 ss[i6].2.length hs[i6].2)) (first | exact ⟨hx, hdd⟩ | exact ⟨cell_old (B := wc.heap.size) HX.out hT2 hbl6, cell_old (B := wc.heap.size) HD0.out hT2 hbl6⟩ | exact ⟨cell_old (B := wc.heap.size) HX.out hTa hbl6, cell_old (B := wc.heap.size) HD0.out hTa hbl6⟩ | exact ⟨cell_old (B := wc.heap.size) HX.out hT hbl6, cell_old (B := wc.heap.size) HD0.out hT hbl6⟩) (first | (go_at_call 10; refine (cpBytes_c hs[i6].1 _ hs[i6].2 ss[i6].2 _ HRD.out (by omega)).mono ?_; rintro e w9 ⟨A9, c9, rfl, hc9, ho9, hb9⟩; have hb2 : Below wr.heap.size wr w9 := ⟨hb9.os, hb9.tape, hb9.output, hb9.size, hb9.block⟩; have hT := then_ (w0 := wc) (B := wc.heap.size) HBr.out hb2 hsz; have hsz1 := hT.size; have hTa := hT.alloc hsz1 (.cells #[.int .i64 ss[i6].1, .slice A9 ss[i6].2.length c9] 31); have HO1 := hide (ShO.below HO6.out hb2)) | (refine step_push w9 (by rfl) (.tmp 167) (.tmp 180) 26 (by rfl) wc.heap.size 31 (.agg #[.int .i64 0, .slice none 0 0]) 2 32 Try.underlying26 info40 rfl (by omega) A6 i6 c6 _ [.int .i64 ss[i6].1, .slice A9 ss[i6].2.length c9] (by rfl) HO1.out.row (by rfl) rfl (by simp [Value.oneCell']) (by omega) (by omega) hsz1 ?_; intro A10 c10 w10 hc10 ho10 hg10 _; have hT2 := hT.trans (grown_below HO1.out.row hg10 hsz1)) | fail)
                      have hP := HO6.out.push (s := ss[i6]) (by decide) hsz hb2 ho9 ho10 hg10
                      rw [← List.take_succ_eq_append_getElem hl] at hP
                      have HP6 := hide hP
                      have HT := hide hT2
                      clear hP hb9 hb2 ho9 ho10 hg10 hT hT2 hTa hx hdd
                      go_wp2_with fail
                      exact ⟨⟨i6 + 1, _, _, _, by omega, by go_num, rfl, hc10, HP6.out, HT.out⟩, by simp [intOf]; omega⟩
                    · obtain rfl : i6 = ss.length := by omega
                      rw [List.take_length] at hO6
                      have HO6 := hide hO6
                      have HB6 := hide hB6
                      clear hO6 hB6
                      go_wp2_with fail
                      refine (CA.out 2 wr (by decide) (by decide) (HBc.out.trans (HB6.out.mono HBc.out.size))).mono ?_
                      rintro e w11 ⟨rfl, rfl⟩
                      obtain ⟨b20, b21⟩ := AVB.out 2
                      obtain ⟨b30, b31⟩ := AVB.out 3
                      obtain ⟨a2, ea2⟩ := Int.eq_ofNat_of_zero_le b20
                      obtain ⟨a3, ea3⟩ := Int.eq_ofNat_of_zero_le b30
                      have CA3 := hide (CA.out 3 wr.drew (by decide) (by decide) (HBc.out.trans (HB6.out.drew.mono HBc.out.size)))
                      have hca := CA3.out
                      rw [ea3] at hca
                      have CA4 := hide (hca.mono fun e w'' h => (⟨h.1, h.2.symm⟩ : e = .returned (.int .i64 (a3 : Int)) ∧ w'' = wr.drew))
                      have ha3 : a3 < 256 := by omega
                      rw [ea2]
                      clear b20 b21 b30 b31 ea2 ea3 CA3 hca CA AVB
                      go_upto_region 39 with fail
                      obtain ⟨f, hf⟩ : ∃ f : Nat, (a2 : Int) % (ss.length : Int) = (f : Int) := ⟨a2 % ss.length, by omega⟩
                      have hfN : f < ss.length := by have := Int.emod_lt_of_pos (a2 : Int) (show (0 : Int) < (ss.length : Int) by omega); omega
                      rw [hf]
                      obtain ⟨b6, off6, rfl, hb6, hbl6, hl, hl2, hx6, hd6⟩ := HO6.out.at_ hfN
                      have hdl : ss[f].2.length = p.length := (HS.out.of f hl).len
                      obtain ⟨g, goff, eg, hg1, hg2, hcg, hfg⟩ := (Ow.of_own (HO6.out.data f hl)).at_ (j := 0) (by rw [bC_length]; omega)
                      rw [eg, hdl] at hd6
                      have hl1 : 0 < ss[f].2.length := by omega
                      have hcd : wr.drew.cell? ⟨g, goff, none⟩ = some (.int .u8 (ss[f].2[0].toNat : Int)) := by
                        have e : (bC ss[f].2)[0]'(by rw [bC_length]; exact hl1) = .int .u8 (ss[f].2[0].toNat : Int) := by simp [bC]
                        rw [← e]; exact hcg
                      have hfd : wr.drew.frozen? ⟨g, goff, none⟩ = false := hfg
                      have hdd : wr.drew.cell? ⟨b6, off6 + f * 2 + 1, none⟩ = some (.slice (some ⟨g, goff, none⟩) p.length hs6[f].2) := hd6
                      have HOd : Hid (ShO wr.drew wc.heap.size 31 (some ⟨b6, off6, none⟩) ss.length c6 hs6 ss) := HO6.out.below (by repeat (first | with_reducible exact Below.refl _ _ | with_reducible assumption | refine Below.alloc ?_ (by first | omega | (simp; done) | (simp; omega)) _ | refine Below.setCell ?_ (by first | omega | (simp; done) | (simp; omega)) _ | refine Below.drew ?_ | refine below_drewN ?_ _ | exact Below.refl _ _ | assumption))
                      have HBd := hide (HBc.out.trans (HB6.out.drew.mono HBc.out.size))
                      have HBB := hide (then_ HB.out HBd.out HB.out.size)
                      obtain ⟨r3, hr3⟩ : ∃ r, r = a3 % 255 := ⟨_, rfl⟩
                      have hr3b : r3 < 255 := by omega
                      have hv0 : UInt8.ofNat (1 + r3) ≠ 0 := by
                        intro h
                        have := congrArg UInt8.toNat h
                        simp only [UInt8.toNat_ofNat'] at this
                        have h0 : (0 : UInt8).toNat = 0 := rfl
                        omega
                      have hvn : (UInt8.ofNat (1 + r3)).toNat = 1 + r3 := by simp only [UInt8.toNat_ofNat']; omega
                      have hux := u8x ss[f].2[0] (UInt8.ofNat (1 + r3))
                      rw [hvn] at hux
                      have HSH := hide (bend_shr HOd.out (by decide) hl hl2 hl1 eg (UInt8.ofNat (1 + r3)))
                      have HFT := hide (HS.out.bent p1 p2 k1 hnk2 hl hv0)
                      have HSZ := hide HBB.out.size
                      have hgw : w.heap.size ≤ g := Nat.le_trans HB.out.size (Nat.le_trans HBc.out.size hg1)
                      generalize UInt8.ofNat (1 + r3) = v at hux HSH HFT
                      generalize ss[f].2[0] ^^^ v = nv at hux HSH
                      refine wp_region_still_tail 19 (by kernel_rfl) (by kernel_rfl) ?_
                      simp only [List.take_succ_cons, List.take_zero, List.drop_succ_cons, List.drop_zero]
                      change wpStill _ _ wr.drew (fun a' => wpList _ _ _ _ a' wr.drew) _ _
                      generalize wr.drew = wd at hcd hfd hdd CA4 HBB HSH ⊢
                      obtain ⟨Lp, hLp⟩ : ∃ Lp, Lp = p.length := ⟨_, rfl⟩
                      rw [← hLp] at hdd
                      have hL0 : 0 < Lp := by omega
                      have hLi : (0 : Int) < (Lp : Int) := by omega
                      have t1 : Int.tmod (a3 : Int) 255 = (r3 : Int) := by rw [hr3]; rfl
                      have t1' : (a3 : Int) % 255 = (r3 : Int) := by rw [hr3]; rfl
                      have t2 : IntKind.i64.wrap (1 + (r3 : Int)) = ((1 + r3 : Nat) : Int) := by rw [IntWalk.i64_in _ (by omega)]; omega
                      have t3 : IntKind.u8.wrap ((1 + r3 : Nat) : Int) = ((1 + r3 : Nat) : Int) := by rw [IntWalk.u8_in _ (by omega)]
                      clear hr3 hLp hr3b hvn hv0 ha3
                      generalize 1 + r3 = r4 at hux t2 t3
                      repeat still_step
                      still_call CA4.out
                      repeat still_step
                      refine wpStill_nil ?_
                      clear t1 t1' t2 t3 hux hdd CA4 hL0 hLi
                      have hft := FitShares_i (some ⟨b6, off6, none⟩) ss.length c6 (bendS ss f v) k _ HSH.out hic6
                      rw [HFT.out] at hft
                      have HF := hide hft
                      clear hft
                      go_wp2_with fail
                      refine HF.out.mono ?_
                      rintro e w13 ⟨rfl, hb13⟩
                      have HB13 := hide (then_ (HBB.out.setCell hgw _) hb13 (HBB.out.setCell hgw _).size)
                      clear hb13
                      go_wp2_with fail
                      go_ret
                      exact ⟨rfl, HB13.out⟩
end Go.Proofs.Ytgkjgaijjihmgaa
