/- The reference's GiveShare, where the share is refused at once. -/
import Derived.Test.YtgkjgaijjihmgaaA35
import Derived.Deep.DeepCutAuto
import Derived.Deep.RegionHeld3
namespace Go.Proofs.Ytgkjgaijjihmgaa
open Go.RowKit Gf
set_option maxRecDepth 100000
set_option maxHeartbeats 400000
/-- behind the copy of the seal: its box, and the boxes that were there -/
def SealAt (w : World) (need sum : Int) (A : Option Addr) (n c : Nat) (ss : List Sh) (x : Int) (D : Option Addr) (m cd : Nat) (p : Value) (wx : World) : Prop :=
  ∃ g A1 c1 hs, p = .pointer (some ⟨g, 0, none⟩) ∧ w.heap.size + 3 ≤ g ∧ Blk wx g 39 #[.int .i64 need, .int .i64 sum, .slice A1 n c1] ∧ n ≤ c1 ∧ ShO wx (w.heap.size + 3) 31 A1 n c1 hs ss ∧ Below w.heap.size w wx ∧
    Blk wx w.heap.size 39 #[.int .i64 need, .int .i64 sum, .slice A n c] ∧ Blk wx (w.heap.size + 1) 31 #[.int .i64 x, .slice D m cd] ∧ Blk wx (w.heap.size + 2) 39 #[.int .i64 0, .int .i64 0, .slice none 0 0]
theorem GiveShare_sb (need sum : Int) (A : Option Addr) (n c : Nat) (ss : List Sh) (x : Int) (D : Option Addr) (m cd : Nat) (d : List UInt8) (w : World) (hr : ShR w w.heap.size A n ss) (hd : Rd w w.heap.size 1 D m (bC d)) (hn : n ≤ 1048576) (hdl : ∀ k (h : k < ss.length), ss[k].2.length ≤ 1048576) (hbd : gvBad need ss x d = true) :
    Calls Try.prog 20 #[.agg #[.int .i64 need, .int .i64 sum, .slice A n c], .agg #[.int .i64 x, .slice D m cd]] w (RetGive need sum (gvSh need sum ss x d) (gvCode need sum ss x d) (gvOut need sum ss x d) w) := by
  go_enter Try.func20, Try.ntmps20
  go_upto_region 1 with fail
  have L := ((Blk.new w 39 #[.int .i64 need, .int .i64 sum, .slice A n c]).alloc (.cells #[.int .i64 x, .slice D m cd] 31)).alloc (.cells #[.int .i64 0, .int .i64 0, .slice none 0 0] 39)
  have T := (Blk.new1 w (.cells #[.int .i64 need, .int .i64 sum, .slice A n c] 39) 31 #[.int .i64 x, .slice D m cd]).alloc (.cells #[.int .i64 0, .int .i64 0, .slice none 0 0] 39)
  have M := Blk.new2 w (.cells #[.int .i64 need, .int .i64 sum, .slice A n c] 39) (.cells #[.int .i64 x, .slice D m cd] 31) 39 #[.int .i64 0, .int .i64 0, .slice none 0 0]
  have hB : Below w.heap.size w (((w.alloc (.cells #[.int .i64 need, .int .i64 sum, .slice A n c] 39)).alloc (.cells #[.int .i64 x, .slice D m cd] 31)).alloc (.cells #[.int .i64 0, .int .i64 0, .slice none 0 0] 39)) := (by repeat (first | with_reducible exact Below.refl _ _ | with_reducible assumption | refine Below.alloc ?_ (by first | omega | (simp; done) | (simp; omega)) _ | refine Below.setCell ?_ (by first | omega | (simp; done) | (simp; omega)) _ | refine Below.drew ?_ | refine below_drewN ?_ _ | exact Below.refl _ _ | assumption))
  have hz0 : (((w.alloc (.cells #[.int .i64 need, .int .i64 sum, .slice A n c] 39)).alloc (.cells #[.int .i64 x, .slice D m cd] 31)).alloc (.cells #[.int .i64 0, .int .i64 0, .slice none 0 0] 39)).heap.size = w.heap.size + 3 := by simp
  generalize ((w.alloc (.cells #[.int .i64 need, .int .i64 sum, .slice A n c] 39)).alloc (.cells #[.int .i64 x, .slice D m cd] 31)).alloc (.cells #[.int .i64 0, .int .i64 0, .slice none 0 0] 39) = w0 at L T M hB hz0 ⊢
  go_cut [7] (fun p wx => SealAt w need sum A n c ss x D m cd p wx)
  case first =>
    have q0 := L.cell 0
    have q1 := L.cell 1
    have q2 := L.cell 2
    have HB := hide hB
    have HL := hide L
    have HT := hide T
    have HM := hide M
    have HR := hide (hr.up hB)
    have HDL := hide hdl
    clear hr hd L T M hB hdl
    go_region_held3 (fun w' => w'.cell? ⟨w.heap.size, 0, none⟩ = some (.int .i64 need) ∧ w'.cell? ⟨w.heap.size, 1, none⟩ = some (.int .i64 sum) ∧ w'.cell? ⟨w.heap.size, 2, none⟩ = some (.slice A n c)) (exact ⟨cell_old (B := w0.heap.size) q0 (by repeat (first | with_reducible exact Below.refl _ _ | with_reducible assumption | refine Below.alloc ?_ (by first | omega | (simp; done) | (simp; omega)) _ | refine Below.setCell ?_ (by first | omega | (simp; done) | (simp; omega)) _ | refine Below.drew ?_ | refine below_drewN ?_ _ | exact Below.refl _ _ | assumption)) (by first | omega | (simp; done) | (simp; omega)), cell_old (B := w0.heap.size) q1 (by repeat (first | with_reducible exact Below.refl _ _ | with_reducible assumption | refine Below.alloc ?_ (by first | omega | (simp; done) | (simp; omega)) _ | refine Below.setCell ?_ (by first | omega | (simp; done) | (simp; omega)) _ | refine Below.drew ?_ | refine below_drewN ?_ _ | exact Below.refl _ _ | assumption)) (by first | omega | (simp; done) | (simp; omega)), cell_old (B := w0.heap.size) q2 (by repeat (first | with_reducible exact Below.refl _ _ | with_reducible assumption | refine Below.alloc ?_ (by first | omega | (simp; done) | (simp; omega)) _ | refine Below.setCell ?_ (by first | omega | (simp; done) | (simp; omega)) _ | refine Below.drew ?_ | refine below_drewN ?_ _ | exact Below.refl _ _ | assumption)) (by first | omega | (simp; done) | (simp; omega))⟩) (first | (go_at_call 58; refine (l03Copy_c A n c ss _ (HR.out.up (by repeat (first | with_reducible exact Below.refl _ _ | with_reducible assumption | refine Below.alloc ?_ (by first | omega | (simp; done) | (simp; omega)) _ | refine Below.setCell ?_ (by first | omega | (simp; done) | (simp; omega)) _ | refine Below.drew ?_ | refine below_drewN ?_ _ | exact Below.refl _ _ | assumption))) hn HDL.out).mono ?_; rintro e w1 ⟨A1, c1, hs, rfl, hc1, ho1, hb1⟩; have hT := then_ (w0 := w0) (B := w0.heap.size) (by repeat (first | with_reducible exact Below.refl _ _ | with_reducible assumption | refine Below.alloc ?_ (by first | omega | (simp; done) | (simp; omega)) _ | refine Below.setCell ?_ (by first | omega | (simp; done) | (simp; omega)) _ | refine Below.drew ?_ | refine below_drewN ?_ _ | exact Below.refl _ _ | assumption)) hb1 (by first | omega | (simp; done) | (simp; omega)); have hs1 := hT.size; have hM1 := fun (g t : Nat) (cs : Array Value) (h : Blk _ g t cs) => Blk.step1 hb1 h; obtain ⟨hcl, hfr⟩ := bcell hb1) | fail)
    all_goals
      go_wp2_with fail
      go_meet
    case rel =>
      clear hfr hcl
      have hB' := HB.out
      refine ⟨_, A1, c1, hs, rfl, ?_, ?_, hc1, ?_, ?_, ?_, ?_, ?_⟩
      · first | omega | (simp; done) | (simp; omega)
      · first | exact Blk.new _ _ _ | exact (Blk.new _ _ _).drew
      · exact (ho1.below ((Below.refl _ _).alloc (Nat.le_refl _) _)).mono (by first | omega | (simp; done) | (simp; omega))
      · exact HB.out.trans (Below.mono (B := w0.heap.size) (by repeat (first | with_reducible exact Below.refl _ _ | with_reducible assumption | refine Below.alloc ?_ (by first | omega | (simp; done) | (simp; omega)) _ | refine Below.setCell ?_ (by first | omega | (simp; done) | (simp; omega)) _ | refine Below.drew ?_ | refine below_drewN ?_ _ | exact Below.refl _ _ | assumption)) (by first | omega | (simp; done) | (simp; omega)))
      · exact HL.out.below (B := w0.heap.size) (by repeat (first | with_reducible exact Below.refl _ _ | with_reducible assumption | refine Below.alloc ?_ (by first | omega | (simp; done) | (simp; omega)) _ | refine Below.setCell ?_ (by first | omega | (simp; done) | (simp; omega)) _ | refine Below.drew ?_ | refine below_drewN ?_ _ | exact Below.refl _ _ | assumption)) (by first | omega | (simp; done) | (simp; omega))
      · exact HT.out.below (B := w0.heap.size) (by repeat (first | with_reducible exact Below.refl _ _ | with_reducible assumption | refine Below.alloc ?_ (by first | omega | (simp; done) | (simp; omega)) _ | refine Below.setCell ?_ (by first | omega | (simp; done) | (simp; omega)) _ | refine Below.drew ?_ | refine below_drewN ?_ _ | exact Below.refl _ _ | assumption)) (by first | omega | (simp; done) | (simp; omega))
      · exact HM.out.below (B := w0.heap.size) (by repeat (first | with_reducible exact Below.refl _ _ | with_reducible assumption | refine Below.alloc ?_ (by first | omega | (simp; done) | (simp; omega)) _ | refine Below.setCell ?_ (by first | omega | (simp; done) | (simp; omega)) _ | refine Below.drew ?_ | refine below_drewN ?_ _ | exact Below.refl _ _ | assumption)) (by first | omega | (simp; done) | (simp; omega))
    case rel =>
      clear hfr hcl
      have hB' := HB.out
      refine ⟨_, A1, c1, hs, rfl, ?_, ?_, hc1, ?_, ?_, ?_, ?_, ?_⟩
      · first | omega | (simp; done) | (simp; omega)
      · exact Blk.set (Blk.set (Blk.set (hM1 (w.heap.size + 3) 39 #[.int .i64 0, .int .i64 0, .slice none 0 0] (by rw [← hz0]; exact Blk.new w0 39 _)) _ _) _ _) _ _
      · refine ShO.mono (lo := (w0.alloc (Obj.cells #[Value.int IntKind.i64 0, Value.int IntKind.i64 0, Value.slice none 0 0] 39)).drew.heap.size) ?_ (by first | omega | (simp; done) | (simp; omega)); refine ShO.far ?_ (by first | omega | (simp; done) | (simp; omega)) _; refine ShO.far ?_ (by first | omega | (simp; done) | (simp; omega)) _; refine ShO.far ?_ (by first | omega | (simp; done) | (simp; omega)) _; exact ho1
      · exact HB.out.trans (Below.mono (B := w0.heap.size) (by repeat (first | with_reducible exact Below.refl _ _ | with_reducible assumption | refine Below.alloc ?_ (by first | omega | (simp; done) | (simp; omega)) _ | refine Below.setCell ?_ (by first | omega | (simp; done) | (simp; omega)) _ | refine Below.drew ?_ | refine below_drewN ?_ _ | exact Below.refl _ _ | assumption)) (by first | omega | (simp; done) | (simp; omega)))
      · exact HL.out.below (B := w0.heap.size) (by repeat (first | with_reducible exact Below.refl _ _ | with_reducible assumption | refine Below.alloc ?_ (by first | omega | (simp; done) | (simp; omega)) _ | refine Below.setCell ?_ (by first | omega | (simp; done) | (simp; omega)) _ | refine Below.drew ?_ | refine below_drewN ?_ _ | exact Below.refl _ _ | assumption)) (by first | omega | (simp; done) | (simp; omega))
      · exact HT.out.below (B := w0.heap.size) (by repeat (first | with_reducible exact Below.refl _ _ | with_reducible assumption | refine Below.alloc ?_ (by first | omega | (simp; done) | (simp; omega)) _ | refine Below.setCell ?_ (by first | omega | (simp; done) | (simp; omega)) _ | refine Below.drew ?_ | refine below_drewN ?_ _ | exact Below.refl _ _ | assumption)) (by first | omega | (simp; done) | (simp; omega))
      · exact HM.out.below (B := w0.heap.size) (by repeat (first | with_reducible exact Below.refl _ _ | with_reducible assumption | refine Below.alloc ?_ (by first | omega | (simp; done) | (simp; omega)) _ | refine Below.setCell ?_ (by first | omega | (simp; done) | (simp; omega)) _ | refine Below.drew ?_ | refine below_drewN ?_ _ | exact Below.refl _ _ | assumption)) (by first | omega | (simp; done) | (simp; omega))
  case rest =>
    obtain ⟨g, A1, c1, hs, rfl, hg, hG, hc1, hO, hB1, hL1, hT1, hM1⟩ := hcut
    have hz1 := hB1.size
    have hz1' := hG.lt
    clear L T M hB hz0
    have hln := hr.1
    have hlm := hd.bn
    have HR := hide hr
    have HD := hide hd
    have hbm := hd.bd
    have qL := fun (j : Nat) (v : Value) (h : wc.cell? ⟨w.heap.size, j, none⟩ = some v) (y : After wc.heap.size wc) => y.cell h hL1.lt
    have l0 := qL 0 _ (hL1.cell 0)
    have l1 := qL 1 _ (hL1.cell 1)
    have l2 := qL 2 _ (hL1.cell 2)
    have qT := fun (j : Nat) (v : Value) (h : wc.cell? ⟨w.heap.size + 1, j, none⟩ = some v) (y : After wc.heap.size wc) => y.cell h hT1.lt
    have t0 := qT 0 _ (hT1.cell 0)
    have t1 := qT 1 _ (hT1.cell 1)
    have HRW := hide (hr.up hB1)
    clear qL qT hr hd
    cases h1 : slOk need ss
    · have hbad : gvBad need ss x d = true := by unfold gvBad; rw [h1]; rfl
      have HS : Hid (∀ W, ShR W W.heap.size A n ss → Calls Try.prog 59 #[.agg #[.int .i64 need, .int .i64 sum, .slice A n c]] W (RetV (.bool false) W)) := fun W hW => by
        have h := SealOk_s need sum A n c ss W hW
        rw [h1] at h
        exact h
      go_wp2_with fail
      refine wp_region_after wc.heap.size (by kernel_rfl) (by kernel_rfl) ?_
      repeat (go_big_quiet_step ((go_at_call 59; exact after_of (Nat.le_refl _) (HS.out _ (After.shr _ HRW.out (Nat.le_refl _) (Nat.le_refl _))))))
      refine wpQuiet_nil ?_
      rintro w2 ⟨x_w2, e_w2⟩
      have hb2 := x_w2.below
      rw [← e_w2] at hb2
      clear e_w2 x_w2
      have hM2 : Blk wc (w.heap.size + 1 + 1) 39 #[.int .i64 0, .int .i64 0, .slice none 0 0] := hM1
      obtain ⟨G2, qG, fG, _⟩ := hG.step hb2
      obtain ⟨M2, qM, fM, _⟩ := hM2.step hb2
      have O2 := hO.below hb2
      have hB2 := then_ hB1 hb2 hz1
      have hz2 := hb2.size
      clear l0 l1 l2 t0 t1 hb2 hM2
      go_wp2_with fail
      refine bodyPost_ret (v := .tuple #[.agg #[.int .i64 need, .int .i64 sum, .slice A1 n c1], .int .i64 4, .slice none 0 0]) (by simp [results, Try.results20, go_sem, qM]) rfl ?_
      have hcode : gvCode need sum ss x d = 4 := by unfold gvCode; rw [if_pos hbad]
      have hsh : gvSh need sum ss x d = ss := by unfold gvSh; rw [if_pos (.inl hcode)]
      have hout : gvOut need sum ss x d = [] := by unfold gvOut; rw [hcode]; rfl
      show RetGive _ _ _ _ _ _ _ _
      rw [hcode, hsh, hout]
      refine ⟨A1, c1, hs, none, 0, by rw [hln]; rfl, by rw [hln]; exact hc1, Nat.le_refl _, ?_, World.ownsRow_nil _ _ _ _, (by repeat (first | with_reducible exact Below.refl _ _ | with_reducible assumption | refine Below.alloc ?_ (by first | omega | (simp; done) | (simp; omega)) _ | refine Below.setCell ?_ (by first | omega | (simp; done) | (simp; omega)) _ | refine Below.drew ?_ | refine below_drewN ?_ _ | exact Below.refl _ _ | assumption))⟩
      rw [hln]
      refine ShO.mono (lo := w.heap.size + 3) ?_ (by first | omega | (simp; done) | (simp; omega))
      refine ShO.far ?_ (by first | omega | (simp; done) | (simp; omega)) _
      refine ShO.far ?_ (by first | omega | (simp; done) | (simp; omega)) _
      refine ShO.far ?_ (by first | omega | (simp; done) | (simp; omega)) _
      exact O2
    · have HS : Hid (∀ W, ShR W W.heap.size A n ss → Calls Try.prog 59 #[.agg #[.int .i64 need, .int .i64 sum, .slice A n c]] W (RetV (.bool true) W)) := fun W hW => by
        have h := SealOk_s need sum A n c ss W hW
        rw [h1] at h
        exact h
      cases h2 : shOk x m
      · have hbad : gvBad need ss x d = true := by unfold gvBad; rw [h1, hlm, h2]; rfl
        have HT : Hid (∀ W, Calls Try.prog 60 #[.agg #[.int .i64 x, .slice D m cd]] W (RetV (.bool false) W)) := fun W => by
          have h := ShareOk_s x D m cd W hbm
          rw [h2] at h
          exact h
        go_wp2_with fail
        refine wp_region_after wc.heap.size (by kernel_rfl) (by kernel_rfl) ?_
        repeat (go_big_quiet_step ((first | (go_at_call 59; exact after_of (Nat.le_refl _) (HS.out _ (After.shr _ HRW.out (Nat.le_refl _) (Nat.le_refl _)))) | (go_at_call 60; exact after_of (Nat.le_refl _) (HT.out _)))))
        refine wpQuiet_nil ?_
        rintro w2 ⟨x_w2, e_w2⟩
        have hb2 := x_w2.below
        rw [← e_w2] at hb2
        clear e_w2 x_w2
        have hM2 : Blk wc (w.heap.size + 1 + 1) 39 #[.int .i64 0, .int .i64 0, .slice none 0 0] := hM1
        obtain ⟨G2, qG, fG, _⟩ := hG.step hb2
        obtain ⟨M2, qM, fM, _⟩ := hM2.step hb2
        have O2 := hO.below hb2
        have hB2 := then_ hB1 hb2 hz1
        have hz2 := hb2.size
        clear l0 l1 l2 t0 t1 hb2 hM2
        go_wp2_with fail
        refine bodyPost_ret (v := .tuple #[.agg #[.int .i64 need, .int .i64 sum, .slice A1 n c1], .int .i64 4, .slice none 0 0]) (by simp [results, Try.results20, go_sem, qM]) rfl ?_
        have hcode : gvCode need sum ss x d = 4 := by unfold gvCode; rw [if_pos hbad]
        have hsh : gvSh need sum ss x d = ss := by unfold gvSh; rw [if_pos (.inl hcode)]
        have hout : gvOut need sum ss x d = [] := by unfold gvOut; rw [hcode]; rfl
        show RetGive _ _ _ _ _ _ _ _
        rw [hcode, hsh, hout]
        refine ⟨A1, c1, hs, none, 0, by rw [hln]; rfl, by rw [hln]; exact hc1, Nat.le_refl _, ?_, World.ownsRow_nil _ _ _ _, (by repeat (first | with_reducible exact Below.refl _ _ | with_reducible assumption | refine Below.alloc ?_ (by first | omega | (simp; done) | (simp; omega)) _ | refine Below.setCell ?_ (by first | omega | (simp; done) | (simp; omega)) _ | refine Below.drew ?_ | refine below_drewN ?_ _ | exact Below.refl _ _ | assumption))⟩
        rw [hln]
        refine ShO.mono (lo := w.heap.size + 3) ?_ (by first | omega | (simp; done) | (simp; omega))
        refine ShO.far ?_ (by first | omega | (simp; done) | (simp; omega)) _
        refine ShO.far ?_ (by first | omega | (simp; done) | (simp; omega)) _
        refine ShO.far ?_ (by first | omega | (simp; done) | (simp; omega)) _
        exact O2
      · have HT : Hid (∀ W, Calls Try.prog 60 #[.agg #[.int .i64 x, .slice D m cd]] W (RetV (.bool true) W)) := fun W => by
          have h := ShareOk_s x D m cd W hbm
          rw [h2] at h
          exact h
        by_cases h3 : 0 < n ∧ lenS ss ≠ m
        · have hbad : gvBad need ss x d = true := by unfold gvBad; rw [hln, hlm]; simp [h3.1, h3.2]
          obtain ⟨b, off, hA, hblt, hl0, A0, c0, _, hd0, _⟩ := HR.out.at_ (k := 0) h3.1
          subst hA
          simp only [Nat.zero_mul, Nat.add_zero] at hd0
          have hle : lenS ss = ss[0].2.length := by
            cases ss with
            | nil => simp at hl0
            | cons s ss => rfl
          have d1 := cell_old hd0 hB1 hblt
          have s1 := fun (y : After wc.heap.size wc) => y.cell d1 (by omega)
          have hn0 : decide ((0 : Int) < (n : Int)) = true := by simp; omega
          have hne : (((ss[0].2.length : Nat) : Int) != (m : Int)) = true := by
            have := h3.2
            rw [hle] at this
            simp only [bne_iff_ne, ne_eq]
            omega
          go_wp2_with fail
          refine wp_region_after wc.heap.size (by kernel_rfl) (by kernel_rfl) ?_
          repeat (go_big_quiet_step ((first | (go_at_call 59; exact after_of (Nat.le_refl _) (HS.out _ (After.shr _ HRW.out (Nat.le_refl _) (Nat.le_refl _)))) | (go_at_call 60; exact after_of (Nat.le_refl _) (HT.out _)))))
          refine wpQuiet_nil ?_
          rintro w2 ⟨x_w2, e_w2⟩
          have hb2 := x_w2.below
          rw [← e_w2] at hb2
          clear e_w2 x_w2
          have hM2 : Blk wc (w.heap.size + 1 + 1) 39 #[.int .i64 0, .int .i64 0, .slice none 0 0] := hM1
          obtain ⟨G2, qG, fG, _⟩ := hG.step hb2
          obtain ⟨M2, qM, fM, _⟩ := hM2.step hb2
          have O2 := hO.below hb2
          have hB2 := then_ hB1 hb2 hz1
          have hz2 := hb2.size
          clear s1 l0 l1 l2 t0 t1 hb2 hM2
          go_wp2_with fail
          refine bodyPost_ret (v := .tuple #[.agg #[.int .i64 need, .int .i64 sum, .slice A1 n c1], .int .i64 4, .slice none 0 0]) (by simp [results, Try.results20, go_sem, qM]) rfl ?_
          have hcode : gvCode need sum ss x d = 4 := by unfold gvCode; rw [if_pos hbad]
          have hsh : gvSh need sum ss x d = ss := by unfold gvSh; rw [if_pos (.inl hcode)]
          have hout : gvOut need sum ss x d = [] := by unfold gvOut; rw [hcode]; rfl
          show RetGive _ _ _ _ _ _ _ _
          rw [hcode, hsh, hout]
          refine ⟨A1, c1, hs, none, 0, by rw [hln]; rfl, by rw [hln]; exact hc1, Nat.le_refl _, ?_, World.ownsRow_nil _ _ _ _, (by repeat (first | with_reducible exact Below.refl _ _ | with_reducible assumption | refine Below.alloc ?_ (by first | omega | (simp; done) | (simp; omega)) _ | refine Below.setCell ?_ (by first | omega | (simp; done) | (simp; omega)) _ | refine Below.drew ?_ | refine below_drewN ?_ _ | exact Below.refl _ _ | assumption))⟩
          rw [hln]
          refine ShO.mono (lo := w.heap.size + 3) ?_ (by first | omega | (simp; done) | (simp; omega))
          refine ShO.far ?_ (by first | omega | (simp; done) | (simp; omega)) _
          refine ShO.far ?_ (by first | omega | (simp; done) | (simp; omega)) _
          refine ShO.far ?_ (by first | omega | (simp; done) | (simp; omega)) _
          exact O2
        · exfalso
          unfold gvBad at hbd
          rw [h1, hln, hlm, h2] at hbd
          simp at hbd
          exact h3 ⟨by omega, hbd.2⟩
end Go.Proofs.Ytgkjgaijjihmgaa
