/- The reference's GiveShare, where the share is not refused at once. -/
import Derived.Test.YtgkjgaijjihmgaaA36
import Derived.Deep.DeepCutAuto
import Derived.Deep.RegionHeld3
namespace Go.Proofs.Ytgkjgaijjihmgaa
open Go.RowKit Gf
set_option maxRecDepth 100000
set_option maxHeartbeats 400000
theorem give_out {w W : World} {need sum : Int} {S : List Sh} {code : Int} {l : List UInt8} {A B : Option Addr} {c cb : Nat} {hs : List (Option Addr × Nat)} {u0 u1 u2 : Value} (hB : Below w.heap.size w W) (_ : w.heap.size + 3 ≤ W.heap.size) (hc : S.length ≤ c) (hcb : l.length ≤ cb) (hO : ShO W (w.heap.size + 3) 31 A S.length c hs S) (ho : W.ownsRow (w.heap.size + 3) 5 1 (.slice B l.length cb) l.length (bC l)) :
    RetGive need sum S code l w (.returned (.tuple #[.agg #[.int .i64 need, .int .i64 sum, .slice A S.length c], .int .i64 code, .slice B l.length cb])) (((W.setCell ⟨w.heap.size + 1 + 1, 0, none⟩ u0).setCell ⟨w.heap.size + 1 + 1, 1, none⟩ u1).setCell ⟨w.heap.size + 1 + 1, 2, none⟩ u2) := by
  refine ⟨A, c, hs, B, cb, rfl, hc, hcb, ?_, ?_, ((hB.setCell (by simp; omega) _).setCell (by simp; omega) _).setCell (by simp; omega) _⟩
  · exact (((hO.far (p := ⟨w.heap.size + 1 + 1, 0, none⟩) (by show w.heap.size + 1 + 1 < _; omega) _).far (p := ⟨w.heap.size + 1 + 1, 1, none⟩) (by show w.heap.size + 1 + 1 < _; omega) _).far (p := ⟨w.heap.size + 1 + 1, 2, none⟩) (by show w.heap.size + 1 + 1 < _; omega) _).mono (by omega)
  · exact own_mono (ownsRow_setCell_below (ownsRow_setCell_below (ownsRow_setCell_below ho (by show w.heap.size + 1 + 1 < _; omega) _) (by show w.heap.size + 1 + 1 < _; omega) _) (by show w.heap.size + 1 + 1 < _; omega) _) (by omega)
theorem own_up {w w' : World} {base e size n c : Nat} {A : Option Addr} {xs : List Value} (h : w.ownsRow base e size (.slice A n c) n xs) (hb : Below w.heap.size w w') : w'.ownsRow base e size (.slice A n c) n xs :=
  own_keep h fun a ha => by subst ha; exact hb.block _ (own_lt h)
/-- behind the append: the shares with the new one -/
def AllAt (W : World) (ss : List Sh) (x : Int) (d : List UInt8) (v : Value) (wx : World) : Prop :=
  ∃ A9 c9 hs9, v = .slice A9 (ss.length + 1) c9 ∧ ss.length + 1 ≤ c9 ∧ ShO wx W.heap.size 31 A9 (ss.length + 1) c9 hs9 (ss ++ [(x, d)]) ∧ Below W.heap.size W wx
theorem pure_retV {v : Value} {w : World} {e : Ending} {w' : World} (h : Pure v w e w') : RetV v w e w' := ⟨h.1, by rw [← h.2]; exact Below.refl _ _⟩
theorem GiveShare_so (need sum : Int) (A : Option Addr) (n c : Nat) (ss : List Sh) (x : Int) (D : Option Addr) (m cd : Nat) (d : List UInt8) (w : World) (hr : ShR w w.heap.size A n ss) (hd : Rd w w.heap.size 1 D m (bC d)) (hn : n ≤ 1048576) (hm : m ≤ 1048576) (hdl : ∀ k (h : k < ss.length), ss[k].2.length ≤ 1048576) (hbd : gvBad need ss x d = false) :
    Calls Try.prog 20 #[.agg #[.int .i64 need, .int .i64 sum, .slice A n c], .agg #[.int .i64 x, .slice D m cd]] w (RetGive need sum (gvSh need sum ss x d) (gvCode need sum ss x d) (gvOut need sum ss x d) w) := by
  go_enter Try.func20, Try.ntmps20
  go_upto_region 1 with fail
  have L := ((Blk.new w 39 #[.int .i64 need, .int .i64 sum, .slice A n c]).alloc (.cells #[.int .i64 x, .slice D m cd] 31)).alloc (.cells #[.int .i64 0, .int .i64 0, .slice none 0 0] 39)
  have T := (Blk.new1 w (.cells #[.int .i64 need, .int .i64 sum, .slice A n c] 39) 31 #[.int .i64 x, .slice D m cd]).alloc (.cells #[.int .i64 0, .int .i64 0, .slice none 0 0] 39)
  have M := Blk.new2 w (.cells #[.int .i64 need, .int .i64 sum, .slice A n c] 39) (.cells #[.int .i64 x, .slice D m cd] 31) 39 #[.int .i64 0, .int .i64 0, .slice none 0 0]
  have hB : Below w.heap.size w (((w.alloc (.cells #[.int .i64 need, .int .i64 sum, .slice A n c] 39)).alloc (.cells #[.int .i64 x, .slice D m cd] 31)).alloc (.cells #[.int .i64 0, .int .i64 0, .slice none 0 0] 39)) := (by repeat (first | with_reducible exact Below.refl _ _ | with_reducible assumption | refine Below.alloc ?_ (by first | omega | (simp; done) | (simp; omega)) _ | refine Below.setCell ?_ (by first | omega | (simp; done) | (simp; omega)) _ | refine Below.drew ?_ | refine below_drewN ?_ _ | exact Below.refl _ _ | assumption))
  have hz0 : (((w.alloc (.cells #[.int .i64 need, .int .i64 sum, .slice A n c] 39)).alloc (.cells #[.int .i64 x, .slice D m cd] 31)).alloc (.cells #[.int .i64 0, .int .i64 0, .slice none 0 0] 39)).heap.size = w.heap.size + 3 := by simp
  generalize ((w.alloc (.cells #[.int .i64 need, .int .i64 sum, .slice A n c] 39)).alloc (.cells #[.int .i64 x, .slice D m cd] 31)).alloc (.cells #[.int .i64 0, .int .i64 0, .slice none 0 0] 39) = w0 at L T M hB hz0 ⊢
  go_cut [7] (fun p wx => SealAt w need sum A n c ss x D m cd p wx)
  case first =>
    have q0 := L.cell 0
    have q1 := L.cell 1
    have q2 := L.cell 2
    have HB := hide hB
    have HL := hide L
    have HT := hide T
    have HM := hide M
    have HR := hide (hr.up hB)
    have HDL := hide hdl
    clear hr hd L T M hB hdl
    go_region_held3 (fun w' => w'.cell? ⟨w.heap.size, 0, none⟩ = some (.int .i64 need) ∧ w'.cell? ⟨w.heap.size, 1, none⟩ = some (.int .i64 sum) ∧ w'.cell? ⟨w.heap.size, 2, none⟩ = some (.slice A n c)) (exact ⟨cell_old (B := w0.heap.size) q0 (by repeat (first | with_reducible exact Below.refl _ _ | with_reducible assumption | refine Below.alloc ?_ (by first | omega | (simp; done) | (simp; omega)) _ | refine Below.setCell ?_ (by first | omega | (simp; done) | (simp; omega)) _ | refine Below.drew ?_ | refine below_drewN ?_ _ | exact Below.refl _ _ | assumption)) (by first | omega | (simp; done) | (simp; omega)), cell_old (B := w0.heap.size) q1 (by repeat (first | with_reducible exact Below.refl _ _ | with_reducible assumption | refine Below.alloc ?_ (by first | omega | (simp; done) | (simp; omega)) _ | refine Below.setCell ?_ (by first | omega | (simp; done) | (simp; omega)) _ | refine Below.drew ?_ | refine below_drewN ?_ _ | exact Below.refl _ _ | assumption)) (by first | omega | (simp; done) | (simp; omega)), cell_old (B := w0.heap.size) q2 (by repeat (first | with_reducible exact Below.refl _ _ | with_reducible assumption | refine Below.alloc ?_ (by first | omega | (simp; done) | (simp; omega)) _ | refine Below.setCell ?_ (by first | omega | (simp; done) | (simp; omega)) _ | refine Below.drew ?_ | refine below_drewN ?_ _ | exact Below.refl _ _ | assumption)) (by first | omega | (simp; done) | (simp; omega))⟩) (first | (go_at_call 58; refine (l03Copy_c A n c ss _ (HR.out.up (by repeat (first | with_reducible exact Below.refl _ _ | with_reducible assumption | refine Below.alloc ?_ (by first | omega | (simp; done) | (simp; omega)) _ | refine Below.setCell ?_ (by first | omega | (simp; done) | (simp; omega)) _ | refine Below.drew ?_ | refine below_drewN ?_ _ | exact Below.refl _ _ | assumption))) hn HDL.out).mono ?_; rintro e w1 ⟨A1, c1, hs, rfl, hc1, ho1, hb1⟩; have hT := then_ (w0 := w0) (B := w0.heap.size) (by repeat (first | with_reducible exact Below.refl _ _ | with_reducible assumption | refine Below.alloc ?_ (by first | omega | (simp; done) | (simp; omega)) _ | refine Below.setCell ?_ (by first | omega | (simp; done) | (simp; omega)) _ | refine Below.drew ?_ | refine below_drewN ?_ _ | exact Below.refl _ _ | assumption)) hb1 (by first | omega | (simp; done) | (simp; omega)); have hs1 := hT.size; have hM1 := fun (g t : Nat) (cs : Array Value) (h : Blk _ g t cs) => Blk.step1 hb1 h; obtain ⟨hcl, hfr⟩ := bcell hb1) | fail)
    all_goals
      go_wp2_with fail
      go_meet
    case rel =>
      clear hfr hcl
      have hB' := HB.out
      refine ⟨_, A1, c1, hs, rfl, ?_, ?_, hc1, ?_, ?_, ?_, ?_, ?_⟩
      · first | omega | (simp; done) | (simp; omega)
      · first | exact Blk.new _ _ _ | exact (Blk.new _ _ _).drew
      · exact (ho1.below ((Below.refl _ _).alloc (Nat.le_refl _) _)).mono (by first | omega | (simp; done) | (simp; omega))
      · exact HB.out.trans (Below.mono (B := w0.heap.size) (by repeat (first | with_reducible exact Below.refl _ _ | with_reducible assumption | refine Below.alloc ?_ (by first | omega | (simp; done) | (simp; omega)) _ | refine Below.setCell ?_ (by first | omega | (simp; done) | (simp; omega)) _ | refine Below.drew ?_ | refine below_drewN ?_ _ | exact Below.refl _ _ | assumption)) (by first | omega | (simp; done) | (simp; omega)))
      · exact HL.out.below (B := w0.heap.size) (by repeat (first | with_reducible exact Below.refl _ _ | with_reducible assumption | refine Below.alloc ?_ (by first | omega | (simp; done) | (simp; omega)) _ | refine Below.setCell ?_ (by first | omega | (simp; done) | (simp; omega)) _ | refine Below.drew ?_ | refine below_drewN ?_ _ | exact Below.refl _ _ | assumption)) (by first | omega | (simp; done) | (simp; omega))
      · exact HT.out.below (B := w0.heap.size) (by repeat (first | with_reducible exact Below.refl _ _ | with_reducible assumption | refine Below.alloc ?_ (by first | omega | (simp; done) | (simp; omega)) _ | refine Below.setCell ?_ (by first | omega | (simp; done) | (simp; omega)) _ | refine Below.drew ?_ | refine below_drewN ?_ _ | exact Below.refl _ _ | assumption)) (by first | omega | (simp; done) | (simp; omega))
      · exact HM.out.below (B := w0.heap.size) (by repeat (first | with_reducible exact Below.refl _ _ | with_reducible assumption | refine Below.alloc ?_ (by first | omega | (simp; done) | (simp; omega)) _ | refine Below.setCell ?_ (by first | omega | (simp; done) | (simp; omega)) _ | refine Below.drew ?_ | refine below_drewN ?_ _ | exact Below.refl _ _ | assumption)) (by first | omega | (simp; done) | (simp; omega))
    case rel =>
      clear hfr hcl
      have hB' := HB.out
      refine ⟨_, A1, c1, hs, rfl, ?_, ?_, hc1, ?_, ?_, ?_, ?_, ?_⟩
      · first | omega | (simp; done) | (simp; omega)
      · exact Blk.set (Blk.set (Blk.set (hM1 (w.heap.size + 3) 39 #[.int .i64 0, .int .i64 0, .slice none 0 0] (by rw [← hz0]; exact Blk.new w0 39 _)) _ _) _ _) _ _
      · refine ShO.mono (lo := (w0.alloc (Obj.cells #[Value.int IntKind.i64 0, Value.int IntKind.i64 0, Value.slice none 0 0] 39)).drew.heap.size) ?_ (by first | omega | (simp; done) | (simp; omega)); refine ShO.far ?_ (by first | omega | (simp; done) | (simp; omega)) _; refine ShO.far ?_ (by first | omega | (simp; done) | (simp; omega)) _; refine ShO.far ?_ (by first | omega | (simp; done) | (simp; omega)) _; exact ho1
      · exact HB.out.trans (Below.mono (B := w0.heap.size) (by repeat (first | with_reducible exact Below.refl _ _ | with_reducible assumption | refine Below.alloc ?_ (by first | omega | (simp; done) | (simp; omega)) _ | refine Below.setCell ?_ (by first | omega | (simp; done) | (simp; omega)) _ | refine Below.drew ?_ | refine below_drewN ?_ _ | exact Below.refl _ _ | assumption)) (by first | omega | (simp; done) | (simp; omega)))
      · exact HL.out.below (B := w0.heap.size) (by repeat (first | with_reducible exact Below.refl _ _ | with_reducible assumption | refine Below.alloc ?_ (by first | omega | (simp; done) | (simp; omega)) _ | refine Below.setCell ?_ (by first | omega | (simp; done) | (simp; omega)) _ | refine Below.drew ?_ | refine below_drewN ?_ _ | exact Below.refl _ _ | assumption)) (by first | omega | (simp; done) | (simp; omega))
      · exact HT.out.below (B := w0.heap.size) (by repeat (first | with_reducible exact Below.refl _ _ | with_reducible assumption | refine Below.alloc ?_ (by first | omega | (simp; done) | (simp; omega)) _ | refine Below.setCell ?_ (by first | omega | (simp; done) | (simp; omega)) _ | refine Below.drew ?_ | refine below_drewN ?_ _ | exact Below.refl _ _ | assumption)) (by first | omega | (simp; done) | (simp; omega))
      · exact HM.out.below (B := w0.heap.size) (by repeat (first | with_reducible exact Below.refl _ _ | with_reducible assumption | refine Below.alloc ?_ (by first | omega | (simp; done) | (simp; omega)) _ | refine Below.setCell ?_ (by first | omega | (simp; done) | (simp; omega)) _ | refine Below.drew ?_ | refine below_drewN ?_ _ | exact Below.refl _ _ | assumption)) (by first | omega | (simp; done) | (simp; omega))
  case rest =>
    obtain ⟨g, A1, c1, hs, rfl, hg, hG, hc1, hO, hB1, hL1, hT1, hM1⟩ := hcut
    have hz1 := hB1.size
    have hz1' := hG.lt
    clear L T M hB hz0
    have hln := hr.1
    have hlm := hd.bn
    have HR := hide hr
    have HD := hide hd
    have hbm := hd.bd
    have qL := fun (j : Nat) (v : Value) (h : wc.cell? ⟨w.heap.size, j, none⟩ = some v) (y : After wc.heap.size wc) => y.cell h hL1.lt
    have l0 := qL 0 _ (hL1.cell 0)
    have l1 := qL 1 _ (hL1.cell 1)
    have l2 := qL 2 _ (hL1.cell 2)
    have qT := fun (j : Nat) (v : Value) (h : wc.cell? ⟨w.heap.size + 1, j, none⟩ = some v) (y : After wc.heap.size wc) => y.cell h hT1.lt
    have t0 := qT 0 _ (hT1.cell 0)
    have t1 := qT 1 _ (hT1.cell 1)
    have HRW := hide (hr.up hB1)
    clear qL qT hr hd
    have h12 : slOk need ss = true ∧ shOk x m = true ∧ ¬ (0 < n ∧ lenS ss ≠ m) := by
      unfold gvBad at hbd
      rw [hln, hlm] at hbd
      simp only [Bool.or_eq_false_iff, Bool.not_eq_false', Bool.and_eq_false_iff, decide_eq_false_iff_not] at hbd
      refine ⟨hbd.1.1, hbd.1.2, fun h => ?_⟩
      rcases hbd.2 with h4 | h4
      · exact h4 h.1
      · exact h4 h.2
    obtain ⟨h1, h2, h3⟩ := h12
    have HS : Hid (∀ W, ShR W W.heap.size A n ss → Calls Try.prog 59 #[.agg #[.int .i64 need, .int .i64 sum, .slice A n c]] W (RetV (.bool true) W)) := fun W hW => by
      have h := SealOk_s need sum A n c ss W hW
      rw [h1] at h
      exact h
    have HT : Hid (∀ W, Calls Try.prog 60 #[.agg #[.int .i64 x, .slice D m cd]] W (RetV (.bool true) W)) := fun W => by
      have h := ShareOk_s x D m cd W hbm
      rw [h2] at h
      exact h
    have HL1 := hide hL1
    have HT1 := hide hT1
    have HM1 := hide hM1
    have HG := hide hG
    have HO := hide hO
    have hB1' := hB1
    clear hM1 hG hO
    go_upto_region 2 with fail
    go_cut [45] (fun v wx => v = .bool false ∧ Below wc.heap.size wc wx)
    case first =>
      clear HL1 HT1 HM1 HG HO hbd h1 h2
      have hcs : n = 0 ∨ (0 < n ∧ lenS ss = m) := by
        by_cases h4 : lenS ss = m
        · rcases Nat.eq_zero_or_pos n with h5 | h5
          · exact .inl h5
          · exact .inr ⟨h5, h4⟩
        · rcases Nat.eq_zero_or_pos n with h5 | h5
          · exact .inl h5
          · exact absurd ⟨h5, h4⟩ h3
      rcases hcs with h4 | ⟨h4, h5⟩
      · subst h4
        clear h3 hln hdl HR HD hbm hlm
        refine wp_region_after wc.heap.size (by kernel_rfl) (by kernel_rfl) ?_
        repeat (go_big_quiet_step ((first | (go_at_call 59; exact after_of (Nat.le_refl _) (HS.out _ (After.shr _ HRW.out (Nat.le_refl _) (Nat.le_refl _)))) | (go_at_call 60; exact after_of (Nat.le_refl _) (HT.out _)))))
        refine wpQuiet_nil ?_
        rintro w2 ⟨x_w2, e_w2⟩
        have hb2 := x_w2.below
        rw [← e_w2] at hb2
        clear e_w2 x_w2
        go_wp2_with fail
        go_meet
        exact ⟨rfl, hb2⟩
      · obtain ⟨b, off, hA, hblt, hl0, A0, c0, _, hd0, _⟩ := HR.out.at_ (k := 0) h4
        subst hA
        simp only [Nat.zero_mul, Nat.add_zero] at hd0
        have hle : lenS ss = ss[0].2.length := by
          cases ss with
          | nil => simp at hl0
          | cons s ss => rfl
        have d1 := cell_old hd0 hB1 hblt
        have s1 := fun (y : After wc.heap.size wc) => y.cell d1 (by omega)
        have hn0 : decide ((0 : Int) < (n : Int)) = true := by simp; omega
        have hne : (((ss[0].2.length : Nat) : Int) != (m : Int)) = false := by rw [← hle, h5]; simp
        refine wp_region_after wc.heap.size (by kernel_rfl) (by kernel_rfl) ?_
        repeat (go_big_quiet_step ((first | (go_at_call 59; exact after_of (Nat.le_refl _) (HS.out _ (After.shr _ HRW.out (Nat.le_refl _) (Nat.le_refl _)))) | (go_at_call 60; exact after_of (Nat.le_refl _) (HT.out _)))))
        refine wpQuiet_nil ?_
        rintro w2 ⟨x_w2, e_w2⟩
        have hb2 := x_w2.below
        rw [← e_w2] at hb2
        clear e_w2 x_w2
        go_wp2_with fail
        go_meet
        exact ⟨rfl, hb2⟩
    case rest =>
      obtain ⟨rfl, hb2⟩ := hcut
      have HL := hide (HL1.out.below hb2 HL1.out.lt)
      have HS2 := hide (HT1.out.below hb2 HT1.out.lt)
      have HM2 : Hid (Blk wc (w.heap.size + 1 + 1) 39 #[.int .i64 0, .int .i64 0, .slice none 0 0]) := HM1.out.below hb2 HM1.out.lt
      have HG2 := hide (HG.out.below hb2 HG.out.lt)
      have HO2 := hide (ShO.below HO.out hb2)
      have HRW2 := hide (HRW.out.up hb2)
      have HDW := hide ((HD.out.up hB1').up hb2)
      have HB2 := hide (then_ hB1' hb2 hz1)
      have hz2 := Nat.le_trans hz1 hb2.size
      have hz3 := HM2.out.lt
      have hzg := HG2.out.lt
      have HDL := hide hdl
      have HBD := hide hbd
      have HLN := hide hln
      have HLM := hide hlm
      clear l0 l1 l2 t0 t1 HS HT HL1 HT1 HM1 HG HO HRW HR HD hB1' hB1 hL1 hT1 hb2 h1 h2 h3 hdl hbd hln hlm hz1' hz1
      go_wp2_with fail
      go_loopw [8] (fun iv wr => ∃ k m : Nat, k ≤ n ∧ iv = .int .i64 k ∧ wr = wc.drewN m ∧ ∀ j (hj : j < ss.length), j < k → ss[j].1 ≠ x) (fun iv _ => n - (intOf iv).toNat)
      case atStart => exact ⟨0, 0, by omega, rfl, rfl, fun j _ h => absurd h (by omega)⟩
      case round =>
        obtain ⟨k, mm, hk, rfl, rfl, hne⟩ := hrel
        have l2 : wc.cell? ⟨w.heap.size, 2, none⟩ = some (.slice A n c) := HL.out.cell 2
        have t0 : wc.cell? ⟨w.heap.size + 1, 0, none⟩ = some (.int .i64 x) := HS2.out.cell 0
        by_cases hlt : k < n
        · obtain ⟨b, off, rfl, hblt, hl, Ak, ck, hx0, hd0, hrd0⟩ := HRW2.out.at_ hlt
          clear hd0 hrd0
          by_cases he : ss[k].1 = x
          · have e1 : (ss[k].1 == x) = true := by simp [he]
            have HE := hide he
            have g0 := HG2.out.cell
            have qM := HM2.out.cell
            have fM := HM2.out.frozen
            clear he hne
            go_wp2_with fail
            go_quiet (fail)
            go_wp2_with fail
            have hcode : gvCode need sum ss x d = 3 := by
              unfold gvCode
              rw [if_neg (by rw [HBD.out]; decide), if_pos]
              unfold gvDup
              exact List.any_eq_true.2 ⟨ss[k], List.getElem_mem hl, by simp [HE.out]⟩
            have hsh : gvSh need sum ss x d = ss := by unfold gvSh; rw [if_pos (.inr hcode)]
            have hout : gvOut need sum ss x d = [] := by unfold gvOut; rw [hcode]; rfl
            have hnl : n = ss.length := HLN.out.symm
            refine bodyPost_ret (v := .tuple #[.agg #[.int .i64 need, .int .i64 sum, .slice A1 n c1], .int .i64 3, .slice none 0 0]) (by simp [results, Try.results20, go_sem, qM]) rfl ?_
            show RetGive _ _ _ _ _ _ _ _
            rw [hcode, hsh, hout, hnl]
            exact give_out (below_drewN HB2.out _) (by simp; omega) (by omega) (Nat.le_refl _) (by rw [← hnl]; exact HO2.out.below (below_drewN (Below.refl _ _) _)) (World.ownsRow_nil _ _ _ _)
          · have e1 : (ss[k].1 == x) = false := by simp [he]
            have HN := hide hne
            have HE := hide he
            clear he hne
            go_wp2_with fail
            go_quiet (fail)
            go_wp2_with fail
            exact ⟨⟨k + 1, _, by omega, by go_num, rfl, fun j hj hjk => by
              rcases Nat.lt_or_ge j k with h | h
              · exact HN.out j hj h
              · have : j = k := by omega
                subst this; exact HE.out⟩, by simp [intOf]; omega⟩
        · have HND : Hid (gvDup ss x = false) := by
            show gvDup ss x = false
            unfold gvDup
            rw [List.any_eq_false]
            intro s hs e
            obtain ⟨j, hj, rfl⟩ := List.getElem_of_mem hs
            exact hne j hj (by have := HLN.out; omega) (beq_iff_eq.1 e)
          clear hne
          have hBq : Below wc.heap.size wc (wc.drewN mm) := below_drewN (Below.refl _ _) mm
          have HL := hide (HL.out.below hBq HL.out.lt)
          have HS2 := hide (HS2.out.below hBq HS2.out.lt)
          have HM2 := hide (HM2.out.below hBq HM2.out.lt)
          have HRW2 := hide (HRW2.out.up hBq)
          have HDW := hide (HDW.out.up hBq)
          have HB2 := hide (below_drewN HB2.out mm)
          have hzz : (wc.drewN mm).heap.size = wc.heap.size := rfl
          generalize wc.drewN mm = wa at HL HS2 HM2 HRW2 HDW HB2 hzz ⊢
          have hz4 : w.heap.size + 3 ≤ wa.heap.size := by omega
          clear HG2 HO2 hBq hzz hz2 hz3 hzg l2 t0
          have l2 := HL.out.cell 2
          go_upto_region 9 with fail
          go_cut [9] (fun v wx => AllAt wa ss x d v wx)
          case first =>
            obtain rfl : d.length = m := HLM.out
            have hl9 : ss.length + 1 = n + 1 := by rw [HLN.out]
            have t0 := HS2.out.cell 0
            have t1 := HS2.out.cell 1
            have hlL := HL.out.lt
            have hlS := HS2.out.lt
            go_region_held3 (fun w' => w'.cell? ⟨w.heap.size, 2, none⟩ = some (.slice A n c) ∧ w'.cell? ⟨w.heap.size + 1, 0, none⟩ = some (.int .i64 x) ∧ w'.cell? ⟨w.heap.size + 1, 1, none⟩ = some (.slice D d.length cd)) (exact ⟨cell_old (B := wa.heap.size) l2 (by repeat (first | with_reducible exact Below.refl _ _ | with_reducible assumption | refine Below.alloc ?_ (by first | omega | (simp; done) | (simp; omega)) _ | refine Below.setCell ?_ (by first | omega | (simp; done) | (simp; omega)) _ | refine Below.drew ?_ | refine below_drewN ?_ _ | exact Below.refl _ _ | assumption)) hlL, cell_old (B := wa.heap.size) t0 (by repeat (first | with_reducible exact Below.refl _ _ | with_reducible assumption | refine Below.alloc ?_ (by first | omega | (simp; done) | (simp; omega)) _ | refine Below.setCell ?_ (by first | omega | (simp; done) | (simp; omega)) _ | refine Below.drew ?_ | refine below_drewN ?_ _ | exact Below.refl _ _ | assumption)) hlS, cell_old (B := wa.heap.size) t1 (by repeat (first | with_reducible exact Below.refl _ _ | with_reducible assumption | refine Below.alloc ?_ (by first | omega | (simp; done) | (simp; omega)) _ | refine Below.setCell ?_ (by first | omega | (simp; done) | (simp; omega)) _ | refine Below.drew ?_ | refine below_drewN ?_ _ | exact Below.refl _ _ | assumption)) hlS⟩) (first | (go_at_call 61; refine (l01Bytes_c D d.length cd d _ (HDW.out.up (by repeat (first | with_reducible exact Below.refl _ _ | with_reducible assumption | refine Below.alloc ?_ (by first | omega | (simp; done) | (simp; omega)) _ | refine Below.setCell ?_ (by first | omega | (simp; done) | (simp; omega)) _ | refine Below.drew ?_ | refine below_drewN ?_ _ | exact Below.refl _ _ | assumption))) (by omega)).mono ?_; rintro e w2 ⟨A2, c2, rfl, hc2, ho2, hb2⟩; have hT2 := then_ (w0 := wa) (B := wa.heap.size) (by repeat (first | with_reducible exact Below.refl _ _ | with_reducible assumption | refine Below.alloc ?_ (by first | omega | (simp; done) | (simp; omega)) _ | refine Below.setCell ?_ (by first | omega | (simp; done) | (simp; omega)) _ | refine Below.drew ?_ | refine below_drewN ?_ _ | exact Below.refl _ _ | assumption)) hb2 (by first | omega | (simp; done) | (simp; omega)); have hs2 := hT2.size; have HO1 := hide (ShO.below HOA.out hb2)) | (go_at_call 58; refine (l03Copy_c A n c ss _ (HRW2.out.up (by repeat (first | with_reducible exact Below.refl _ _ | with_reducible assumption | refine Below.alloc ?_ (by first | omega | (simp; done) | (simp; omega)) _ | refine Below.setCell ?_ (by first | omega | (simp; done) | (simp; omega)) _ | refine Below.drew ?_ | refine below_drewN ?_ _ | exact Below.refl _ _ | assumption))) hn HDL.out).mono ?_; rintro e w1 ⟨A1', c1', hs1, rfl, hc1', ho1, hb1⟩; have hT1 := then_ (w0 := wa) (B := wa.heap.size) (by repeat (first | with_reducible exact Below.refl _ _ | with_reducible assumption | refine Below.alloc ?_ (by first | omega | (simp; done) | (simp; omega)) _ | refine Below.setCell ?_ (by first | omega | (simp; done) | (simp; omega)) _ | refine Below.drew ?_ | refine below_drewN ?_ _ | exact Below.refl _ _ | assumption)) hb1 (by first | omega | (simp; done) | (simp; omega)); have hs1z := hT1.size; have HOA := hide ho1) | (refine step_push w2 (by rfl) (.tmp 66) (.tmp 73) 26 (by rfl) wa.heap.size 31 (.agg #[.int .i64 0, .slice none 0 0]) 2 32 Try.underlying26 info40 rfl (by omega) A1' n c1' _ [.int .i64 x, .slice A2 d.length c2] (by rfl) HO1.out.row (by rfl) rfl (by simp [Value.oneCell']) (by omega) (by omega) hs2 ?_; intro A3 c3 w3 hc3 ho3 hg3 _; have hT3 := hT2.trans (grown_below HO1.out.row hg3 hs2)) | fail)
            have hP := HOA.out.push (s := (x, d)) (by decide) (show wa.heap.size ≤ w1.heap.size from hs1z) hb2 ho2 ho3 hg3
            have hP2 : ShO w3 wa.heap.size 31 A3 (ss.length + 1) c3 (hs1 ++ [(A2, c2)]) (ss ++ [(x, d)]) := by rw [hl9]; exact hP
            go_wp2_with fail
            go_meet
            exact ⟨A3, c3, _, by rw [hl9], by rw [hl9]; exact hc3, hP2, hT3⟩
          case rest =>
            obtain ⟨A9, c9, hs9, rfl, hc9, hO9, hB9⟩ := hcut
            have HB := hide (then_ HB2.out hB9 HB2.out.size)
            have HL := hide (HL.out.below hB9 HL.out.lt)
            have HM2 := hide (HM2.out.below hB9 HM2.out.lt)
            have hz5 := Nat.le_trans hz4 hB9.size
            have hlM := HM2.out.lt
            have hlL := HL.out.lt
            have hl9 : (ss ++ [(x, d)]).length = ss.length + 1 := by simp
            have hsec : gvSec need ss x d = cbR (ss ++ [(x, d)]) need := rfl
            have hb0 : ¬ gvBad need ss x d = true := by rw [HBD.out]; decide
            have hd0 : ¬ gvDup ss x = true := by rw [HND.out]; decide
            have HO9 := hide (hO9.mono (lo' := w.heap.size + 3) hz4)
            have HC := hide (CombineShares_s A9 (ss.length + 1) c9 (ss ++ [(x, d)]) need wc hO9.rd)
            clear HS2 HRW2 HDW HB2 HDL hO9 hB9 l2
            by_cases hlt : ((ss.length : Nat) : Int) + 1 < need
            · have hcode : gvCode need sum ss x d = 0 := by unfold gvCode; rw [if_neg hb0, if_neg hd0, if_pos hlt]
              have hsh : gvSh need sum ss x d = ss ++ [(x, d)] := by unfold gvSh; rw [if_neg (by rw [hcode]; decide), if_pos hcode]
              have hout : gvOut need sum ss x d = [] := by unfold gvOut; rw [hcode]; rfl
              have HCD := hide hcode
              have HSH := hide hsh
              have HOT := hide hout
              clear hcode hsh hout
              generalize ss ++ [(x, d)] = S at HO9 HC hl9 hc9 HSH ⊢
              have hlt9 : ((ss.length + 1 : Nat) : Int) < need := by omega
              have l0 := HL.out.cell
              have qM := HM2.out.cell
              have fM := HM2.out.frozen
              clear hsec hb0 hd0 HND HBD HC
              go_wp2_with fail
              refine bodyPost_ret (v := .tuple #[.agg #[.int .i64 need, .int .i64 sum, .slice A9 (ss.length + 1) c9], .int .i64 0, .slice none 0 0]) (by simp [results, Try.results20, go_sem, qM]) rfl ?_
              show RetGive _ _ _ _ _ _ _ _
              rw [HCD.out, HSH.out, HOT.out]
              rw [← hl9] at hc9 ⊢
              exact give_out HB.out hz5 hc9 (Nat.le_refl _) (by rw [hl9]; exact HO9.out) (World.ownsRow_nil _ _ _ _)
            · have hcode : gvCode need sum ss x d = if dig (cbR (ss ++ [(x, d)]) need) ≠ sum then 2 else 1 := by unfold gvCode; rw [if_neg hb0, if_neg hd0, if_neg hlt, hsec]
              have hsh : gvSh need sum ss x d = [] := by unfold gvSh; rw [if_neg (by rw [hcode]; split <;> decide), if_neg (by rw [hcode]; split <;> decide)]
              have hout : gvOut need sum ss x d = if dig (cbR (ss ++ [(x, d)]) need) ≠ sum then [] else cbR (ss ++ [(x, d)]) need := by
                unfold gvOut
                rw [hcode, hsec]
                split <;> rfl
              have HCD := hide hcode
              have HSH := hide hsh
              have HOT := hide hout
              clear hcode hsh hout
              generalize cbR (ss ++ [(x, d)]) need = key at HC HCD HOT
              generalize cbOk (ss ++ [(x, d)]) need = ok at HC
              generalize ss ++ [(x, d)] = S at HO9 HC hl9 hc9 ⊢
              have hlt9 : ¬ ((ss.length + 1 : Nat) : Int) < need := by omega
              have l0 := HL.out.cell
              clear hsec hb0 hd0 HND HBD hlt
              go_wp2_with fail
              refine HC.out.mono ?_
              rintro e w5 ⟨A5, c5, rfl, hc5, ho5, hb5⟩
              have HB := hide (then_ HB.out hb5 HB.out.size)
              have HL := hide (HL.out.below hb5 hlL)
              have HM2 := hide (HM2.out.below hb5 hlM)
              have hz6 := Nat.le_trans hz5 hb5.size
              have HK := hide ho5
              have hlL := HL.out.lt
              have l1 := fun (y : After w5.heap.size w5) => y.cell (HL.out.cell 1) hlL
              clear HC hb5 ho5 l0
              go_wp2_with fail
              refine wp_region_after w5.heap.size (by kernel_rfl) (by kernel_rfl) ?_
              repeat (go_big_quiet_step ((go_at_call 62; exact after_pure (Digest_s A5 _ c5 key _ _ (After.rd _ (own_rd HK.out) (Nat.le_refl _) (Nat.le_refl _))))))
              refine wpQuiet_nil ?_
              rintro w6 ⟨x_w6, e_w6⟩
              have hb6 := x_w6.below
              rw [← e_w6] at hb6
              clear e_w6 x_w6
              have HB := hide (then_ HB.out hb6 HB.out.size)
              have HL := hide (HL.out.below hb6 HL.out.lt)
              have HM2 := hide (HM2.out.below hb6 HM2.out.lt)
              have HK2 := hide (own_up HK.out hb6)
              have l0 := HL.out.cell
              have qM := HM2.out.cell
              have fM := HM2.out.frozen
              have hlM := HM2.out.lt
              have hz7 := Nat.le_trans hz6 hb6.size
              clear l1 hb6
              by_cases hdg : dig key = sum
              · have hne : (dig key != sum) = false := by simp [hdg]
                have HCD := hide (HCD.out.trans (if_neg (by simp [hdg])))
                have HOT := hide (HOT.out.trans (if_neg (by simp [hdg])))
                have HDG := hide hdg
                clear hdg
                go_wp2_with fail
                refine bodyPost_ret (v := .tuple #[.agg #[.int .i64 need, .int .i64 sum, .slice none 0 0], .int .i64 1, .slice A5 key.length c5]) (by simp [results, Try.results20, go_sem, qM]) rfl ?_
                show RetGive _ _ _ _ _ _ _ _
                rw [HCD.out, HSH.out, HOT.out]
                exact give_out HB.out hz7 (Nat.le_refl _) hc5 (ShO.nil _ _ _) (own_mono HK2.out hz5)
              · have hne : (dig key != sum) = true := by simp [hdg]
                have HCD := hide (HCD.out.trans (if_pos hdg))
                have HOT := hide (HOT.out.trans (if_pos hdg))
                have HDG := hide hdg
                clear hdg
                go_wp2_with fail
                refine bodyPost_ret (v := .tuple #[.agg #[.int .i64 need, .int .i64 sum, .slice none 0 0], .int .i64 2, .slice none 0 0]) (by simp [results, Try.results20, go_sem, qM]) rfl ?_
                show RetGive _ _ _ _ _ _ _ _
                rw [HCD.out, HSH.out, HOT.out]
                exact give_out HB.out hz7 (Nat.le_refl _) (Nat.le_refl _) (ShO.nil _ _ _) (World.ownsRow_nil _ _ _ _)
theorem GiveShare_s (need sum : Int) (A : Option Addr) (n c : Nat) (ss : List Sh) (x : Int) (D : Option Addr) (m cd : Nat) (d : List UInt8) (w : World) (hr : ShR w w.heap.size A n ss) (hd : Rd w w.heap.size 1 D m (bC d)) (hn : n ≤ 1048576) (hm : m ≤ 1048576) (hdl : ∀ k (h : k < ss.length), ss[k].2.length ≤ 1048576) :
    Calls Try.prog 20 #[.agg #[.int .i64 need, .int .i64 sum, .slice A n c], .agg #[.int .i64 x, .slice D m cd]] w (RetGive need sum (gvSh need sum ss x d) (gvCode need sum ss x d) (gvOut need sum ss x d) w) := by
  cases h : gvBad need ss x d
  · exact GiveShare_so need sum A n c ss x D m cd d w hr hd hn hm hdl h
  · exact GiveShare_sb need sum A n c ss x D m cd d w hr hd hn hdl h
end Go.Proofs.Ytgkjgaijjihmgaa
