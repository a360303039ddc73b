/- The law of unsealing: it returns true. -/
import Derived.Test.YtgkjgaijjihmgaaA41
import Derived.Test.YtgkjgaijjihmgaaA33
import Derived.Test.YtgkjgaijjihmgaaA31
import Derived.Test.YtgkjgaijjihmgaaALaw3
import Derived.Deep.DeepCutAuto
import Derived.Deep.RegionHeld3
namespace Go.Proofs.Ytgkjgaijjihmgaa
open Go.RowKit Gf
set_option maxRecDepth 100000
set_option maxHeartbeats 4000000
theorem fnUnseal_walk (A : Option Addr) (n c : Nat) (l : List UInt8) (w : World) (hr : Rd w w.heap.size 1 A n (bC l)) : Calls Try.prog 4 #[.slice A n c] w (RetV (.bool true) w) := by
  have hbd := hr.bd
  by_cases hn : 1048576 < n
  · go_enter Try.func4, Try.ntmps4
    go_wp2_with (go_at_call 6; refine (big_c _ _ _ _ hbd).mono ?_; rintro e w' ⟨rfl, rfl⟩)
    go_ret
    exact ⟨rfl, Below.refl _ _⟩
  · go_enter Try.func4, Try.ntmps4
    go_wp2_with (go_at_call 6; refine (big_c _ _ _ _ hbd).mono ?_; rintro e w' ⟨rfl, rfl⟩)
    refine (DrawSplitSecret_c A n c l _ hr (by omega)).mono ?_
    rintro e w1 ⟨A1, c1, p, N, K, seed, rfl, hpl, hpc, ho1, hB⟩
    have s1 := hB.size
    have HA := hide (hr.up hB)
    have HB1 := hide hB
    clear hr hB hbd
    cases hok : spOk p.length N K seed
    · have cs := SplitSecret_s A1 _ c1 p N K seed w1 (own_rd ho1)
      rw [hok] at cs
      have CS := hide cs
      clear cs hok
      go_wp2_with fail
      refine CS.out.mono ?_
      rintro e w2 ⟨A2, c2, hs2, rfl, hc2, ho2, hb2⟩
      have HB := hide (HB1.out.trans (hb2.mono s1))
      clear ho2 hb2
      go_wp2_with fail
      go_ret
      exact ⟨rfl, HB.out⟩
    · have hk := spOk_true hok
      obtain ⟨Nn, rfl⟩ := Int.eq_ofNat_of_zero_le (show 0 ≤ N by omega)
      obtain ⟨k, rfl⟩ := Int.eq_ofNat_of_zero_le (show 0 ≤ K by omega)
      have cs := SplitSecret_s A1 _ c1 p (Nn : Int) (k : Int) seed w1 (own_rd ho1)
      have hsp : spR p (Nn : Int) (k : Int) seed = spS seed k Nn p := by rw [sp_yes hok, Int.toNat_natCast, Int.toNat_natCast]
      rw [hok, hsp] at cs
      have hS : Spl seed k p (spS seed k Nn p) := spS_spl seed k Nn p (by omega)
      have hl := spS_length seed k Nn p
      have p1 : 1 ≤ p.length := hk.1
      have p2 : p.length ≤ 64 := hk.2.1
      have k1 : 1 ≤ k := by omega
      have kN : k ≤ Nn := by omega
      have N12 : Nn ≤ 12 := by omega
      clear hok hsp hk
      generalize spS seed k Nn p = ss at cs hS hl
      subst hl
      have CS := hide cs
      have HS := hide hS
      clear cs hS
      go_wp2_with fail
      refine CS.out.mono ?_
      rintro e w2 ⟨A2, c2, hs2, rfl, hc2, ho2, hb2⟩
      have HB2 := hide (HB1.out.trans (hb2.mono s1))
      have HA2 := hide (HA.out.up hb2)
      have HP2 := hide ((own_rd ho1).up hb2)
      have HSS2 := hide ho2.rd
      clear CS HB1 HA ho1 ho2 hb2 s1
      go_wp2_with fail
      refine (cpBytes_c A1 _ c1 p _ HP2.out (by omega)).mono ?_
      rintro e w3 ⟨A3, c3, rfl, hc3, ho3, hb3⟩
      have HB3 := hide (then_ HB2.out hb3 HB2.out.size)
      have HA3 := hide (HA2.out.up hb3)
      have HP3 := hide (HP2.out.up hb3)
      have HSS3 := hide (HSS2.out.up hb3)
      have HD3 := hide (own_rd ho3)
      clear HB2 HA2 HP2 HSS2 hb3 ho3
      go_wp2_with fail
      refine (Digest_i A3 _ c3 p _ _ HD3.out).mono ?_
      rintro e w4 ⟨rfl, rfl⟩
      clear HD3
      go_wp2_with fail
      have L := hide (Blk.new w3 39 #[.int .i64 (k : Int), .int .i64 (dig p), .slice none 0 0])
      have hq : Below w3.heap.size w3 (w3.alloc (.cells #[.int .i64 (k : Int), .int .i64 (dig p), .slice none 0 0] 39)) := (by repeat (first | with_reducible exact Below.refl _ _ | with_reducible assumption | refine Below.alloc ?_ (by first | omega | (simp; done) | (simp; omega)) _ | refine Below.setCell ?_ (by first | omega | (simp; done) | (simp; omega)) _ | refine Below.drew ?_ | refine below_drewN ?_ _ | exact Below.refl _ _ | assumption))
      have HB := hide (then_ HB3.out hq HB3.out.size)
      have HZ := hide HB3.out.size
      have HA4 := hide (HA3.out.below hq (Nat.le_refl _))
      have HP4 := hide (HP3.out.below hq (Nat.le_refl _))
      have HSS4 := hide (HSS3.out.below hq (Nat.le_refl _))
      clear hq HB3 HA3 HP3 HSS3
      generalize w3.alloc (.cells #[.int .i64 (k : Int), .int .i64 (dig p), .slice none 0 0] 39) = wb at L HB HA4 HP4 HSS4 ⊢
      refine (at_c A n c l 4 wb _ HA4.out (by omega) (by omega) (by omega)).mono ?_
      rintro e w5 ⟨rfl, rfl⟩
      have ha := atV_bd l 4
      obtain ⟨a, ha'⟩ := Int.eq_ofNat_of_zero_le ha.1
      rw [ha'] at ha ⊢
      have haN : a < 256 := by omega
      clear ha ha' HA4
      go_wp2_with fail
      obtain ⟨f, hf⟩ : ∃ f : Nat, (a : Int) % (ss.length : Int) = (f : Int) := ⟨a % ss.length, by omega⟩
      have hfN : f < ss.length := by have := Int.emod_lt_of_pos (a : Int) (show (0 : Int) < (ss.length : Int) by omega); omega
      rw [hf]
      clear hf haN
      generalize w3.heap.size = g0 at L HZ HP4 HSS4 ⊢
      have hg0 := L.out.lt
      go_loopw [11] (fun iv wr => ∃ (i : Nat) (A' : Option Addr) (n' c' : Nat) (hs' : List (Option Addr × Nat)) (S' : List Sh), i ≤ k ∧ iv = .int .i64 i ∧ Below g0 wb wr ∧ Blk wr g0 39 #[.int .i64 (k : Int), .int .i64 (dig p), .slice A' n' c'] ∧ (i < k → n' = i ∧ S' = rotS ss f i) ∧ n' ≤ c' ∧ ShO wr (g0 + 1) 31 A' n' c' hs' S') (fun iv _ => k - (intOf iv).toNat)
      case atStart => exact ⟨0, none, 0, 0, [], [], by omega, rfl, Below.refl _ _, L.out, fun _ => ⟨rfl, rfl⟩, Nat.le_refl _, ShO.nil _ _ _⟩
      case round =>
        obtain ⟨i, A', n', c', hs', S', hik, rfl, hBr, hLr, hSr, hnc', hOr⟩ := hrel
        by_cases hlt : i < k
        · obtain ⟨rfl, rfl⟩ := hSr hlt
          clear hSr
          obtain ⟨j, hjf⟩ : ∃ j, j = (f + n') % ss.length := ⟨_, rfl⟩
          have hj : j < ss.length := by rw [hjf]; exact Nat.mod_lt _ (by omega)
          obtain ⟨n2, S2, code2, m2, l2, hcase, hcg⟩ := give_step HS.out p1 p2 (by omega) kN hlt hj hjf
          obtain ⟨b, off, rfl, hblt, hl, Ak, ck, hx0, hd0, hrd0⟩ := HSS4.out.at_ hj
          have hx := cell_old hx0 hBr hblt
          have hdd := cell_old hd0 hBr hblt
          have hgr := hLr.lt
          have HRD := hide ((hrd0.below hBr (Nat.le_refl _)).mono (Nat.le_of_lt hgr))
          have c0 := hLr.cell 0
          have c1' := hLr.cell 1
          have c2' := hLr.cell 2
          have HLr := hide hLr
          have HBr := hide hBr
          have HOr := hide hOr
          have HCG := hide hcg
          have HCASE := hide hcase
          have HJF := hide hjf
          have HX0 := hide hx0
          have HD0 := hide hd0
          clear hLr hBr hOr hcg hcase hrd0 hx0 hd0
          go_upto_region 12 with fail
          obtain ⟨s, hs⟩ : ∃ s : Nat, s = f + n' := ⟨_, rfl⟩
          have q1 : IntKind.i64.wrap ((f : Int) + (n' : Int)) = (s : Int) := by rw [IntWalk.i64_in _ (by omega)]; omega
          have q2 : Int.tmod (s : Int) (ss.length : Int) = (j : Int) := by rw [hjf, hs]; rfl
          have q2' : (s : Int) % (ss.length : Int) = (j : Int) := by rw [hjf, hs]; rfl
          clear hs
          have q3 : ((ss.length : Int) = 0) = False := by simp; intro h; rw [h] at hj; simp at hj
          have q4 : ((ss.length : Int) == 0) = false := by simp; intro h; rw [h] at hj; simp at hj
          have q5 : (ss = []) = False := by simp; intro h; rw [h] at hj; simp at hj
          have q6 : (ss.length = 0) = False := by simp; intro h; rw [h] at hj; simp at hj
          clear hjf
          go_cut [12, 13, 14] (fun x y z wx => GNx wr k (dig p) n2 S2 code2 m2 l2 x y z wx)
          case first =>
            go_region_held3 (fun w' => w'.cell? ⟨g0, 0, none⟩ = some (.int .i64 k) ∧ w'.cell? ⟨g0, 1, none⟩ = some (.int .i64 (dig p)) ∧ w'.cell? ⟨g0, 2, none⟩ = some (.slice A' n' c') ∧ w'.cell? ⟨b, off + j * 2, none⟩ = some (.int .i64 ss[j].1) ∧ w'.cell? ⟨b, off + j * 2 + 1, none⟩ = some (.slice Ak ss[j].2.length ck)) (exact ⟨cell_old (B := wr.heap.size) c0 (by repeat (first | with_reducible exact Below.refl _ _ | with_reducible assumption | refine Below.alloc ?_ (by first | omega | (simp; done) | (simp; omega)) _ | refine Below.setCell ?_ (by first | omega | (simp; done) | (simp; omega)) _ | refine Below.drew ?_ | refine below_drewN ?_ _ | exact Below.refl _ _ | assumption)) hgr, cell_old (B := wr.heap.size) c1' (by repeat (first | with_reducible exact Below.refl _ _ | with_reducible assumption | refine Below.alloc ?_ (by first | omega | (simp; done) | (simp; omega)) _ | refine Below.setCell ?_ (by first | omega | (simp; done) | (simp; omega)) _ | refine Below.drew ?_ | refine below_drewN ?_ _ | exact Below.refl _ _ | assumption)) hgr, cell_old (B := wr.heap.size) c2' (by repeat (first | with_reducible exact Below.refl _ _ | with_reducible assumption | refine Below.alloc ?_ (by first | omega | (simp; done) | (simp; omega)) _ | refine Below.setCell ?_ (by first | omega | (simp; done) | (simp; omega)) _ | refine Below.drew ?_ | refine below_drewN ?_ _ | exact Below.refl _ _ | assumption)) hgr, cell_old (B := wr.heap.size) hx (by repeat (first | with_reducible exact Below.refl _ _ | with_reducible assumption | refine Below.alloc ?_ (by first | omega | (simp; done) | (simp; omega)) _ | refine Below.setCell ?_ (by first | omega | (simp; done) | (simp; omega)) _ | refine Below.drew ?_ | refine below_drewN ?_ _ | exact Below.refl _ _ | assumption)) (Nat.lt_trans hblt hgr), cell_old (B := wr.heap.size) hdd (by repeat (first | with_reducible exact Below.refl _ _ | with_reducible assumption | refine Below.alloc ?_ (by first | omega | (simp; done) | (simp; omega)) _ | refine Below.setCell ?_ (by first | omega | (simp; done) | (simp; omega)) _ | refine Below.drew ?_ | refine below_drewN ?_ _ | exact Below.refl _ _ | assumption)) (Nat.lt_trans hblt hgr)⟩) (first | (go_at_call 17; refine (HCG.out A' c' Ak ck _ (HOr.out.rd.up (by repeat (first | with_reducible exact Below.refl _ _ | with_reducible assumption | refine Below.alloc ?_ (by first | omega | (simp; done) | (simp; omega)) _ | refine Below.setCell ?_ (by first | omega | (simp; done) | (simp; omega)) _ | refine Below.drew ?_ | refine below_drewN ?_ _ | exact Below.refl _ _ | assumption))) hnc' (HRD.out.up (by repeat (first | with_reducible exact Below.refl _ _ | with_reducible assumption | refine Below.alloc ?_ (by first | omega | (simp; done) | (simp; omega)) _ | refine Below.setCell ?_ (by first | omega | (simp; done) | (simp; omega)) _ | refine Below.drew ?_ | refine below_drewN ?_ _ | exact Below.refl _ _ | assumption)))).mono ?_; rintro e w5 ⟨A5, c5, hs5, B5, cb5, rfl, hc5, hO5, ho5, hb5⟩; have hT5 := then_ (w0 := wr) (B := wr.heap.size) (by repeat (first | with_reducible exact Below.refl _ _ | with_reducible assumption | refine Below.alloc ?_ (by first | omega | (simp; done) | (simp; omega)) _ | refine Below.setCell ?_ (by first | omega | (simp; done) | (simp; omega)) _ | refine Below.drew ?_ | refine below_drewN ?_ _ | exact Below.refl _ _ | assumption)) hb5 (by first | omega | (simp; done) | (simp; omega)); have hz5 := hT5.size; obtain ⟨hcl5, hfr5⟩ := bcell hb5) | fail)
            all_goals
              go_wp2_with fail
              go_meet
            case rel => exact GNx.mk1 hT5 hc5 (Nat.le_refl _) hO5 ho5
            case rel => exact GNx.mk2 hT5 (Nat.le_refl _) (by simp) ((Blk.new wr 39 #[.int .i64 0, .int .i64 0, .slice none 0 0]).drew.below hb5 (by simp)) rfl hc5 hO5 ho5
          case rest =>
            obtain ⟨g1, A5, c5, hs5, B5, cb5, rfl, rfl, rfl, hg1, hc5, hb5, hO5, hk5, hbw⟩ := hcut
            have Q1 := hide q1
            have Q2 := hide q2
            have Q3 := hide q2'
            have Q4 := hide q3
            have Q5 := hide q4
            have Q6 := hide q5
            have Q7 := hide q6
            clear q1 q2 q2' q3 q4 q5 q6 c0 c1' c2' hx hdd HCG
            have HL5 := hide (HLr.out.below hbw hgr)
            have HB5 := hide (HBr.out.trans (hbw.mono (Nat.le_of_lt hgr)))
            have HG5 := hide hb5
            have HO5 := hide hO5
            have HK5 := hide hk5
            have hg15 := hb5.lt
            clear HLr HBr HOr HRD hb5 hO5 hk5 hbw
            rcases HCASE.out with ⟨h1, hn2, hS2, hc2', hm2, hl2⟩ | ⟨h1, hn2, hS2, hc2', hm2, hl2⟩
            · subst hn2; subst hS2; subst hc2'; subst hm2; subst hl2
              clear HCASE
              have cg := HG5.out.cell
              go_upto_region 18 with fail
              obtain ⟨wx, rfl⟩ : ∃ wx : World, wx = wc := ⟨_, rfl⟩
              obtain ⟨n3, S3, m3, l3, hcg⟩ := give_again HS.out p1 p2 (by omega) kN h1 hj HJF.out
              have HCG := hide hcg
              have hx := cell_old HX0.out HB5.out hblt
              have hdd := cell_old HD0.out HB5.out hblt
              have hgw := HL5.out.lt
              have HRD := hide ((((HSS4.out.below HB5.out (Nat.le_refl _)).mono (Nat.le_of_lt hgw)).at_ hj))
              have c0 := HG5.out.cell 0
              have c1' := HG5.out.cell 1
              have c2' := HG5.out.cell 2
              have hbx := Nat.lt_trans hblt hgw
              have HRD2 : Hid (Rd wx wx.heap.size 1 Ak ss[j].2.length (bC ss[j].2)) := by
                obtain ⟨b', off', e', _, _, Ak', ck', _, h2, h3⟩ := HRD.out
                injection e' with e'
                injection e' with e1 e2
                subst e1; subst e2
                rw [hdd] at h2
                injection h2 with h2
                injection h2 with h4
                subst h4
                exact h3
              have q1 := Q1.out
              have q2 := Q2.out
              have q2' := Q3.out
              have q3 := Q4.out
              have q4 := Q5.out
              have q5 := Q6.out
              have q6 := Q7.out
              clear hcg cg HRD Q1 Q2 Q3 Q4 Q5 Q6 Q7
              go_cut [15, 16, 17] (fun x y z w' => GNx wx k (dig p) n3 S3 3 m3 l3 x y z w')
              case first =>
                go_region_held3 (fun w' => w'.cell? ⟨g1, 0, none⟩ = some (.int .i64 k) ∧ w'.cell? ⟨g1, 1, none⟩ = some (.int .i64 (dig p)) ∧ w'.cell? ⟨g1, 2, none⟩ = some (.slice A5 (n' + 1) c5) ∧ w'.cell? ⟨b, off + j * 2, none⟩ = some (.int .i64 ss[j].1) ∧ w'.cell? ⟨b, off + j * 2 + 1, none⟩ = some (.slice Ak ss[j].2.length ck)) (exact ⟨cell_old (B := wx.heap.size) c0 (by repeat (first | with_reducible exact Below.refl _ _ | with_reducible assumption | refine Below.alloc ?_ (by first | omega | (simp; done) | (simp; omega)) _ | refine Below.setCell ?_ (by first | omega | (simp; done) | (simp; omega)) _ | refine Below.drew ?_ | refine below_drewN ?_ _ | exact Below.refl _ _ | assumption)) hg15, cell_old (B := wx.heap.size) c1' (by repeat (first | with_reducible exact Below.refl _ _ | with_reducible assumption | refine Below.alloc ?_ (by first | omega | (simp; done) | (simp; omega)) _ | refine Below.setCell ?_ (by first | omega | (simp; done) | (simp; omega)) _ | refine Below.drew ?_ | refine below_drewN ?_ _ | exact Below.refl _ _ | assumption)) hg15, cell_old (B := wx.heap.size) c2' (by repeat (first | with_reducible exact Below.refl _ _ | with_reducible assumption | refine Below.alloc ?_ (by first | omega | (simp; done) | (simp; omega)) _ | refine Below.setCell ?_ (by first | omega | (simp; done) | (simp; omega)) _ | refine Below.drew ?_ | refine below_drewN ?_ _ | exact Below.refl _ _ | assumption)) hg15, cell_old (B := wx.heap.size) hx (by repeat (first | with_reducible exact Below.refl _ _ | with_reducible assumption | refine Below.alloc ?_ (by first | omega | (simp; done) | (simp; omega)) _ | refine Below.setCell ?_ (by first | omega | (simp; done) | (simp; omega)) _ | refine Below.drew ?_ | refine below_drewN ?_ _ | exact Below.refl _ _ | assumption)) hbx, cell_old (B := wx.heap.size) hdd (by repeat (first | with_reducible exact Below.refl _ _ | with_reducible assumption | refine Below.alloc ?_ (by first | omega | (simp; done) | (simp; omega)) _ | refine Below.setCell ?_ (by first | omega | (simp; done) | (simp; omega)) _ | refine Below.drew ?_ | refine below_drewN ?_ _ | exact Below.refl _ _ | assumption)) hbx⟩) (first | (go_at_call 17; refine (HCG.out A5 c5 Ak ck _ (HO5.out.rd.up (by repeat (first | with_reducible exact Below.refl _ _ | with_reducible assumption | refine Below.alloc ?_ (by first | omega | (simp; done) | (simp; omega)) _ | refine Below.setCell ?_ (by first | omega | (simp; done) | (simp; omega)) _ | refine Below.drew ?_ | refine below_drewN ?_ _ | exact Below.refl _ _ | assumption))) hc5 (HRD2.out.up (by repeat (first | with_reducible exact Below.refl _ _ | with_reducible assumption | refine Below.alloc ?_ (by first | omega | (simp; done) | (simp; omega)) _ | refine Below.setCell ?_ (by first | omega | (simp; done) | (simp; omega)) _ | refine Below.drew ?_ | refine below_drewN ?_ _ | exact Below.refl _ _ | assumption)))).mono ?_; rintro e w5 ⟨A6, c6, hs6, B6, cb6, rfl, hc6, hO6, ho6, hb6⟩; have hT6 := then_ (w0 := wx) (B := wx.heap.size) (by repeat (first | with_reducible exact Below.refl _ _ | with_reducible assumption | refine Below.alloc ?_ (by first | omega | (simp; done) | (simp; omega)) _ | refine Below.setCell ?_ (by first | omega | (simp; done) | (simp; omega)) _ | refine Below.drew ?_ | refine below_drewN ?_ _ | exact Below.refl _ _ | assumption)) hb6 (by first | omega | (simp; done) | (simp; omega)); have hz6 := hT6.size; obtain ⟨hcl6, hfr6⟩ := bcell hb6) | fail)
                all_goals
                  go_wp2_with fail
                  go_meet
                case rel => exact GNx.mk1 hT6 hc6 (Nat.le_refl _) hO6 ho6
                case rel => exact GNx.mk2 hT6 (Nat.le_refl _) (by simp) ((Blk.new wx 39 #[.int .i64 0, .int .i64 0, .slice none 0 0]).drew.below hb6 (by simp)) rfl hc6 hO6 ho6
              case rest =>
                obtain ⟨g2, A6, c6, hs6, B6, cb6, rfl, rfl, rfl, hg2, hc6, hb6, hO6, hk6, hbw⟩ := hcut
                have HL6 := hide (HL5.out.below hbw hgw)
                have HB6 := hide (HB5.out.trans (hbw.mono (Nat.le_of_lt hgw)))
                have HG6 := hide (HG5.out.below hbw hg15)
                have HO6 := hide (ShO.below HO5.out hbw)
                have cg := HG6.out.cell
                have cl := HL6.out.cell
                have fl := HL6.out.frozen
                have hgw6 := HL6.out.lt
                clear q1 q2 q2' q3 q4 q5 q6 c0 c1' c2' hx hdd HCG hb6 hO6 hk6 hbw HL5 HB5 HG5 HO5 HK5
                go_wp2_with fail
                exact ⟨⟨n' + 1, A5, n' + 1, c5, hs5, rotS ss f (n' + 1), by omega, by go_num, ((HB6.out.setCell (Nat.le_refl _) _).setCell (Nat.le_refl _) _).setCell (Nat.le_refl _) _, ((HL6.out.set 0 _).set 1 _).set 2 _, fun _ => ⟨rfl, rfl⟩, hc5, (((HO6.out.far (p := ⟨g0, 0, none⟩) hgr _).far (p := ⟨g0, 1, none⟩) hgr _).far (p := ⟨g0, 2, none⟩) hgr _).mono hgr⟩, by simp [intOf]; omega⟩
            · subst hn2; subst hS2; subst hc2'; subst hm2
              clear HCASE
              have cg := HG5.out.cell
              have HK5' : Hid (Rd wc wc.heap.size 1 B5 p.length (bC p)) := by rw [← hl2]; exact hl2 ▸ HK5.out
              have hgw := HL5.out.lt
              clear hl2 HK5 Q1 Q2 Q3 Q4 Q5 Q6 Q7
              go_wp2_with fail
              refine (sameBytes_c B5 A1 _ cb5 c1 p _ _ _ HK5'.out (HP4.out.below HB5.out (Nat.le_refl _))).mono ?_
              rintro e w6 ⟨rfl, hb6⟩
              have HL6 := hide (HL5.out.below hb6 hgw)
              have HB6 := hide (HB5.out.trans (hb6.mono (Nat.le_of_lt hgw)))
              have HG6 := hide (HG5.out.below hb6 hg15)
              have cg := HG6.out.cell
              have cl := HL6.out.cell
              have fl := HL6.out.frozen
              have hgw6 := HL6.out.lt
              have HO6 := hide (ShO.below HO5.out hb6)
              clear hb6 HL5 HB5 HG5 HO5 HK5'
              go_wp2_with fail
              exact ⟨⟨n' + 1, A5, 0, c5, hs5, [], by omega, by go_num, ((HB6.out.setCell (Nat.le_refl _) _).setCell (Nat.le_refl _) _).setCell (Nat.le_refl _) _, ((HL6.out.set 0 _).set 1 _).set 2 _, fun h => absurd h (by omega), hc5, (((HO6.out.far (p := ⟨g0, 0, none⟩) hgr _).far (p := ⟨g0, 1, none⟩) hgr _).far (p := ⟨g0, 2, none⟩) hgr _).mono hgr⟩, by simp [intOf]; omega⟩
        · have HBr := hide hBr
          have HZB := hide (HB.out.trans (hBr.mono HZ.out))
          clear hLr hBr hOr hSr
          go_wp2_with fail
          go_ret
          exact ⟨rfl, HZB.out⟩
end Go.Proofs.Ytgkjgaijjihmgaa
