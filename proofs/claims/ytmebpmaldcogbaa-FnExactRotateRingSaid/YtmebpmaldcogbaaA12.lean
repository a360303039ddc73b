/- Key rings: trimming: what the program's and the reference's functions give. -/
import Derived.Test.YtmebpmaldcogbaaA11
namespace Go.Proofs.Ytmebpmaldcogbaa
open Go.RowKit Gf
set_option maxRecDepth 100000
set_option maxHeartbeats 400000
def trOk (x : Int) (l : List Int) (fr : Int) : Bool := rgOk x l && inB fr x (x + l.length - 1) && decide (fr ≤ 1000000)
def trX (x : Int) (l : List Int) (fr : Int) : Int := if trOk x l fr then fr else x
def trL (x : Int) (l : List Int) (fr : Int) : List Int := if trOk x l fr then l.drop (fr - x).toNat else l
theorem tr_no {x fr : Int} {l : List Int} (h : trOk x l fr = false) : trX x l fr = x ∧ trL x l fr = l := by
  unfold trX trL; rw [h]; exact ⟨rfl, rfl⟩
theorem tr_yes {x fr : Int} {l : List Int} (h : trOk x l fr = true) : trX x l fr = fr ∧ trL x l fr = l.drop (fr - x).toNat := by
  unfold trX trL; rw [h]; exact ⟨rfl, rfl⟩
theorem rg_bd {x : Int} {l : List Int} (h : rgOk x l = true) : 1 ≤ x ∧ x ≤ 1000000 ∧ 1 ≤ l.length ∧ l.length ≤ 12 := by
  unfold rgOk at h
  rw [Bool.and_eq_true, Bool.and_eq_true] at h
  obtain ⟨⟨h1, h2⟩, _⟩ := h
  have := inB_true.1 h1
  have := inB_true.1 h2
  omega
theorem TrimRing_s (x fr : Int) (A : Option Addr) (n c : Nat) (l : List Int) (w : World) (hr : Rd w w.heap.size 1 A n (iC l)) (hn : n ≤ 1099511627776) (hnc : n ≤ c) :
    Calls Try.prog 65 #[.agg #[.int .i64 x, .slice A n c], .int .i64 fr] w (RetRing2 (trX x l fr) (trL x l fr) (trOk x l fr) w) := by
  have hln := hr.in_
  subst hln
  cases hok : trOk x l fr
  · obtain ⟨e1, e2⟩ := tr_no hok
    rw [e1, e2]
    clear e1 e2
    have hcs : rgOk x l = false ∨ (rgOk x l = true ∧ inB fr x (x + l.length - 1) = false) ∨ (rgOk x l = true ∧ inB fr x (x + l.length - 1) = true ∧ decide (fr ≤ 1000000) = false) := by
      unfold trOk at hok
      cases h1 : rgOk x l <;> cases h2 : inB fr x (x + l.length - 1) <;> cases h3 : decide (fr ≤ 1000000) <;> simp_all
    clear hok
    rcases hcs with h1 | ⟨h1, h2⟩ | ⟨h1, h2, h3⟩
    case' inr.inl => obtain ⟨bd1, bd2, bd3, bd4⟩ := rg_bd h1
    case' inr.inr =>
      obtain ⟨bd1, bd2, bd3, bd4⟩ := rg_bd h1
      replace h3 : 1000000 < fr := by simpa using h3
    all_goals
      go_enter Try.func65, Try.ntmps65
      go_wp2_with fail
      have L := ((Blk.new w 58 #[.int .i64 x, .slice A l.length c]).alloc (.cells #[.int .i64 0, .slice none 0 0] 58))
      have M := (Blk.new1 w (.cells #[.int .i64 x, .slice A l.length c] 58) 58 #[.int .i64 0, .slice none 0 0])
      refine (RingOk_s x A _ c l _ (hr.up (by repeat (first | exact Below.refl _ _ | assumption | refine Below.alloc ?_ (by first | omega | (simp; done) | (simp; omega)) _ | refine Below.setCell ?_ (by first | omega | (simp; done) | (simp; omega)) _ | refine Below.drew ?_ | refine below_drewN ?_ _)))).mono ?_
      rintro e w1 ⟨rfl, hb1⟩
      have hB : Below w.heap.size w w1 := then_ (by repeat (first | exact Below.refl _ _ | assumption | refine Below.alloc ?_ (by first | omega | (simp; done) | (simp; omega)) _ | refine Below.setCell ?_ (by first | omega | (simp; done) | (simp; omega)) _ | refine Below.drew ?_ | refine below_drewN ?_ _)) hb1 (by first | omega | (simp; done) | (simp; omega))
      have hz : w.heap.size + 2 ≤ w1.heap.size := by have := hb1.size; simp at this; omega
      obtain ⟨M, qM, fM, _⟩ := M.step hb1
      obtain ⟨L, qL, _, _⟩ := L.step hb1
      clear hb1
      go_wp2_with (go_at_call 102; refine (l01In_c _ _ _ _).mono ?_; rintro e w' ⟨rfl, rfl⟩)
      replace hB := hB.drew
      replace L := L.drew
      replace M := M.drew
      go_region_held3 (fun w' => w'.cell? ⟨w.heap.size, 0, none⟩ = some (.int .i64 x) ∧ w'.cell? ⟨w.heap.size, 1, none⟩ = some (.slice A l.length c)) (first | exact ⟨L.cell 0, L.cell 1⟩ | exact ⟨((L.far (by first | omega | (simp; done) | (simp; omega)) _).far (by first | omega | (simp; done) | (simp; omega)) _).cell 0, ((L.far (by first | omega | (simp; done) | (simp; omega)) _).far (by first | omega | (simp; done) | (simp; omega)) _).cell 1⟩) (first | (go_at_call 134; refine (l01Copy_c A _ c l _ (hr.up hB) hn).mono ?_; rintro e w2 ⟨A1, c1, rfl, hc1, ho1, hb1⟩; replace hB := then_ hB hb1 hB.size; obtain ⟨M, qM, fM, _⟩ := M.step hb1; obtain ⟨L, qL, _, _⟩ := L.step hb1; have hz2 := hb1.size))
      go_wp2_with fail
      refine bodyPost_ret (v := .tuple #[.agg #[.int .i64 x, .slice A1 l.length c1], .bool false]) (by simp [results, Try.results65, go_sem, qM]) rfl ?_
      have hzd : w1.drew.heap.size = w1.heap.size := rfl
      refine ⟨_, _, rfl, hc1, ((((Ow.of_own ho1).far (by first | omega | (simp; done) | (simp; omega)) _).far (by first | omega | (simp; done) | (simp; omega)) _).mono (by omega) (by simp)), (by repeat (first | exact Below.refl _ _ | assumption | refine Below.alloc ?_ (by first | omega | (simp; done) | (simp; omega)) _ | refine Below.setCell ?_ (by first | omega | (simp; done) | (simp; omega)) _ | refine Below.drew ?_ | refine below_drewN ?_ _))⟩
  · obtain ⟨e1, e2⟩ := tr_yes hok
    rw [e1, e2]
    clear e1 e2
    unfold trOk at hok
    rw [Bool.and_eq_true, Bool.and_eq_true] at hok
    obtain ⟨⟨h1, h2⟩, h3⟩ := hok
    obtain ⟨hx1, hx2, hl1, hl2⟩ := rg_bd h1
    obtain ⟨hf1, hf2⟩ := inB_true.1 h2
    have hf3 : fr ≤ 1000000 := of_decide_eq_true h3
    clear h3
    obtain ⟨k, hk⟩ : ∃ k : Nat, fr = x + k := ⟨(fr - x).toNat, by omega⟩
    subst hk
    rw [show (x + (k : Int) - x).toNat = k from by omega]
    obtain ⟨b, off, rfl, hblt, hl, hc⟩ := hr.int_ (k := 0) (by omega)
    clear hc
    go_enter Try.func65, Try.ntmps65
    go_wp2_with fail
    have L := ((Blk.new w 58 #[.int .i64 x, .slice (some ⟨b, off, none⟩) l.length c]).alloc (.cells #[.int .i64 0, .slice none 0 0] 58))
    have M := (Blk.new1 w (.cells #[.int .i64 x, .slice (some ⟨b, off, none⟩) l.length c] 58) 58 #[.int .i64 0, .slice none 0 0])
    refine (RingOk_s x _ _ c l _ (hr.up (by repeat (first | exact Below.refl _ _ | assumption | refine Below.alloc ?_ (by first | omega | (simp; done) | (simp; omega)) _ | refine Below.setCell ?_ (by first | omega | (simp; done) | (simp; omega)) _ | refine Below.drew ?_ | refine below_drewN ?_ _)))).mono ?_
    rintro e w1 ⟨rfl, hb1⟩
    have hB : Below w.heap.size w w1 := then_ (by repeat (first | exact Below.refl _ _ | assumption | refine Below.alloc ?_ (by first | omega | (simp; done) | (simp; omega)) _ | refine Below.setCell ?_ (by first | omega | (simp; done) | (simp; omega)) _ | refine Below.drew ?_ | refine below_drewN ?_ _)) hb1 (by first | omega | (simp; done) | (simp; omega))
    have hz : w.heap.size + 2 ≤ w1.heap.size := by have := hb1.size; simp at this; omega
    obtain ⟨M, qM, fM, _⟩ := M.step hb1
    obtain ⟨L, qL, _, _⟩ := L.step hb1
    clear hb1
    go_wp2_with (go_at_call 102; refine (l01In_c _ _ _ _).mono ?_; rintro e w' ⟨rfl, rfl⟩)
    rw [show (x + (k : Int) - x).toNat = k from by omega]
    refine (l01Copy_c _ (l.length - k) (c - k) (l.drop k) _ ?_ ?_).mono ?_
    · have := (hr.up hB).cut (k := k) (by omega)
      simpa [iC, List.map_drop] using this
    · omega
    rintro e w2 ⟨A1, c1, rfl, hc1, ho1, hb1⟩
    replace hB := then_ hB hb1 hB.size
    obtain ⟨M, qM, fM, _⟩ := M.step hb1
    have hz2 := hb1.size
    go_wp2_with fail
    refine bodyPost_ret (v := .tuple #[.agg #[.int .i64 (x + (k : Int)), .slice A1 (l.length - k) c1], .bool true]) (by simp [results, Try.results65, go_sem, qM]) rfl ?_
    refine ⟨_, _, by rw [List.length_drop], by rw [List.length_drop]; exact hc1, by rw [List.length_drop]; exact ((((Ow.of_own ho1).far (by first | omega | (simp; done) | (simp; omega)) _).far (by first | omega | (simp; done) | (simp; omega)) _).mono (by omega) (by simp)), (by repeat (first | exact Below.refl _ _ | assumption | refine Below.alloc ?_ (by first | omega | (simp; done) | (simp; omega)) _ | refine Below.setCell ?_ (by first | omega | (simp; done) | (simp; omega)) _ | refine Below.drew ?_ | refine below_drewN ?_ _))⟩
theorem TrimRing_i (x fr : Int) (A : Option Addr) (n c : Nat) (l : List Int) (w : World) (hr : Rd w w.heap.size 1 A n (iC l)) (hn : n ≤ 1099511627776) :
    Calls Try.prog 66 #[.agg #[.int .i64 x, .slice A n c], .int .i64 fr] w (RetRing2 (trX x l fr) (trL x l fr) (trOk x l fr) w) := by
  have hln := hr.in_
  subst hln
  cases hok : trOk x l fr
  · obtain ⟨e1, e2⟩ := tr_no hok
    rw [e1, e2]
    clear e1 e2
    have hcs : rgOk x l = false ∨ (rgOk x l = true ∧ inB fr x (x + l.length - 1) = false) ∨ (rgOk x l = true ∧ inB fr x (x + l.length - 1) = true ∧ decide (fr ≤ 1000000) = false) := by
      unfold trOk at hok
      cases h1 : rgOk x l <;> cases h2 : inB fr x (x + l.length - 1) <;> cases h3 : decide (fr ≤ 1000000) <;> simp_all
    clear hok
    rcases hcs with h1 | ⟨h1, h2⟩ | ⟨h1, h2, h3⟩
    case' inr.inl => obtain ⟨bd1, bd2, bd3, bd4⟩ := rg_bd h1
    case' inr.inr =>
      obtain ⟨bd1, bd2, bd3, bd4⟩ := rg_bd h1
      replace h3 : 1000000 < fr := by simpa using h3
    all_goals
      go_enter Try.func66, Try.ntmps66
      go_wp2_with fail
      have L := ((Blk.new w 58 #[.int .i64 x, .slice A l.length c]).alloc (.cells #[.int .i64 0, .slice none 0 0] 58))
      have M := (Blk.new1 w (.cells #[.int .i64 x, .slice A l.length c] 58) 58 #[.int .i64 0, .slice none 0 0])
      refine (cloneRing_c x A _ c l _ (hr.up (by repeat (first | exact Below.refl _ _ | assumption | refine Below.alloc ?_ (by first | omega | (simp; done) | (simp; omega)) _ | refine Below.setCell ?_ (by first | omega | (simp; done) | (simp; omega)) _ | refine Below.drew ?_ | refine below_drewN ?_ _))) hn).mono ?_
      rintro e w1 ⟨A1, c1, rfl, hc1, ho1, hb1⟩
      have hB : Below w.heap.size w w1 := then_ (by repeat (first | exact Below.refl _ _ | assumption | refine Below.alloc ?_ (by first | omega | (simp; done) | (simp; omega)) _ | refine Below.setCell ?_ (by first | omega | (simp; done) | (simp; omega)) _ | refine Below.drew ?_ | refine below_drewN ?_ _)) hb1 (by first | omega | (simp; done) | (simp; omega))
      have hz : w.heap.size + 2 ≤ w1.heap.size := by have := hb1.size; simp at this; omega
      obtain ⟨M, qM, fM, _⟩ := M.step hb1
      obtain ⟨L, qL, _, _⟩ := L.step hb1
      have o1 := (Ow.of_own ho1).mono (lo' := w.heap.size + 2) (by simp) (Nat.le_refl _)
      clear hb1 ho1
      go_wp2_with fail
      have N := Blk.new w1 58 #[.int .i64 x, .slice A1 l.length c1]
      refine (isRing_c x A _ c l _ (hr.up (hB.alloc (by first | omega | (simp; done) | (simp; omega)) _))).mono ?_
      rintro e w2 ⟨rfl, hb2⟩
      have hT : Below w1.heap.size w1 w2 := then_ (by repeat (first | exact Below.refl _ _ | assumption | refine Below.alloc ?_ (by first | omega | (simp; done) | (simp; omega)) _ | refine Below.setCell ?_ (by first | omega | (simp; done) | (simp; omega)) _ | refine Below.drew ?_ | refine below_drewN ?_ _)) hb2 (by first | omega | (simp; done) | (simp; omega))
      obtain ⟨M, qM, fM, _⟩ := M.step hT
      obtain ⟨L, qL, _, _⟩ := L.step hT
      obtain ⟨N, qN, _, _⟩ := N.step hb2
      replace o1 := o1.below hT (Nat.le_refl _)
      have hz2 := hT.size
      replace hB := then_ hB hT hB.size
      clear hb2 hT
      go_wp2_with (go_at_call 104; refine (within_c _ _ _ _).mono ?_; rintro e w' ⟨rfl, rfl⟩)
      refine bodyPost_ret (v := .tuple #[.agg #[.int .i64 x, .slice A1 l.length c1], .bool false]) (by simp [results, Try.results66, go_sem, qM]) rfl ?_
      exact ⟨_, _, rfl, hc1, ((((o1.mono (Nat.le_refl _) hz2).far (by first | omega | (simp; done) | (simp; omega)) _).far (by first | omega | (simp; done) | (simp; omega)) _).mono (by omega) (by simp)), (by repeat (first | exact Below.refl _ _ | assumption | refine Below.alloc ?_ (by first | omega | (simp; done) | (simp; omega)) _ | refine Below.setCell ?_ (by first | omega | (simp; done) | (simp; omega)) _ | refine Below.drew ?_ | refine below_drewN ?_ _))⟩
  · obtain ⟨e1, e2⟩ := tr_yes hok
    rw [e1, e2]
    clear e1 e2
    unfold trOk at hok
    rw [Bool.and_eq_true, Bool.and_eq_true] at hok
    obtain ⟨⟨h1, h2⟩, h3⟩ := hok
    obtain ⟨hx1, hx2, hl1, hl2⟩ := rg_bd h1
    obtain ⟨hf1, hf2⟩ := inB_true.1 h2
    have hf3 : fr ≤ 1000000 := of_decide_eq_true h3
    clear h3
    obtain ⟨k, hk⟩ : ∃ k : Nat, fr = x + k := ⟨(fr - x).toNat, by omega⟩
    subst hk
    rw [show (x + (k : Int) - x).toNat = k from by omega]
    go_enter Try.func66, Try.ntmps66
    go_wp2_with fail
    have L := ((Blk.new w 58 #[.int .i64 x, .slice A l.length c]).alloc (.cells #[.int .i64 0, .slice none 0 0] 58))
    have M := (Blk.new1 w (.cells #[.int .i64 x, .slice A l.length c] 58) 58 #[.int .i64 0, .slice none 0 0])
    refine (cloneRing_c x A _ c l _ (hr.up (by repeat (first | exact Below.refl _ _ | assumption | refine Below.alloc ?_ (by first | omega | (simp; done) | (simp; omega)) _ | refine Below.setCell ?_ (by first | omega | (simp; done) | (simp; omega)) _ | refine Below.drew ?_ | refine below_drewN ?_ _))) hn).mono ?_
    rintro e w1 ⟨A1, c1, rfl, hc1, ho1, hb1⟩
    have hB : Below w.heap.size w w1 := then_ (by repeat (first | exact Below.refl _ _ | assumption | refine Below.alloc ?_ (by first | omega | (simp; done) | (simp; omega)) _ | refine Below.setCell ?_ (by first | omega | (simp; done) | (simp; omega)) _ | refine Below.drew ?_ | refine below_drewN ?_ _)) hb1 (by first | omega | (simp; done) | (simp; omega))
    have hz : w.heap.size + 2 ≤ w1.heap.size := by have := hb1.size; simp at this; omega
    obtain ⟨M, qM, fM, _⟩ := M.step hb1
    obtain ⟨L, qL, _, _⟩ := L.step hb1
    have o1 := (Ow.of_own ho1).mono (lo' := w.heap.size + 2) (by simp) (Nat.le_refl _)
    clear hb1 ho1
    go_wp2_with fail
    have N := Blk.new w1 58 #[.int .i64 x, .slice A1 l.length c1]
    refine (isRing_c x A _ c l _ (hr.up (hB.alloc (by first | omega | (simp; done) | (simp; omega)) _))).mono ?_
    rintro e w2 ⟨rfl, hb2⟩
    have hT : Below w1.heap.size w1 w2 := then_ (by repeat (first | exact Below.refl _ _ | assumption | refine Below.alloc ?_ (by first | omega | (simp; done) | (simp; omega)) _ | refine Below.setCell ?_ (by first | omega | (simp; done) | (simp; omega)) _ | refine Below.drew ?_ | refine below_drewN ?_ _)) hb2 (by first | omega | (simp; done) | (simp; omega))
    obtain ⟨M, qM, fM, _⟩ := M.step hT
    obtain ⟨L, qL, _, _⟩ := L.step hT
    obtain ⟨N, qN, _, _⟩ := N.step hb2
    replace o1 := o1.below hT (Nat.le_refl _)
    have hz2 := hT.size
    replace hB := then_ hB hT hB.size
    clear hb2 hT
    obtain ⟨b, off, cur, rfl, _⟩ := o1.2.2 (by omega)
    go_wp2_with (go_at_call 104; refine (within_c _ _ _ _).mono ?_; rintro e w' ⟨rfl, rfl⟩)
    have ek : (x + (k : Int) - x).toNat = k := by omega
    refine bodyPost_ret (v := .tuple #[.agg #[.int .i64 (x + (k : Int)), .slice (some ⟨b, off + k, none⟩) (l.length - k) (c1 - k)], .bool true]) (by simp [results, Try.results66, go_sem, qM, ek]) rfl ?_
    have o2 := (o1.mono (Nat.le_refl _) hz2).cut (k := k) (by omega)
    rw [show (iC l).drop k = iC (l.drop k) from by simp [iC, List.map_drop]] at o2
    exact ⟨_, _, by rw [List.length_drop], by rw [List.length_drop]; omega, by rw [List.length_drop]; exact ((o2.far (by first | omega | (simp; done) | (simp; omega)) _).far (by first | omega | (simp; done) | (simp; omega)) _).mono (by omega) (by simp), (by repeat (first | exact Below.refl _ _ | assumption | refine Below.alloc ?_ (by first | omega | (simp; done) | (simp; omega)) _ | refine Below.setCell ?_ (by first | omega | (simp; done) | (simp; omega)) _ | refine Below.drew ?_ | refine below_drewN ?_ _))⟩
end Go.Proofs.Ytmebpmaldcogbaa
