/- Key rings: rotation: what the program's function gives. -/
import Derived.Test.YtmebpmaldcogbaaA14
import Derived.Deep.RegionHeld3
namespace Go.Proofs.Ytmebpmaldcogbaa
open Go.RowKit Gf
set_option maxRecDepth 100000
set_option maxHeartbeats 400000
theorem blk_grown {w w' : World} {base e size n c g t : Nat} {A : Option Addr} {xs : List Value} {cs : Array Value} (hown : w.ownsRow base e size (.slice A n c) n xs) (hg : w.grownBy w' (Value.slice A n c).ownBlock) (h : Blk w g t cs) (hne : t ≠ e) : Blk w' g t cs := by
  refine (far_block hg g h.lt ?_).trans h
  intro ad had hbad
  subst had
  obtain ⟨cur, hcur, _⟩ := own_type hown
  rw [hbad] at hcur
  have hb2 : w.heap[g]? = some (.cells cs t (0, 0)) := h
  rw [hcur] at hb2
  injection hb2 with hb2
  injection hb2 with _ h4
  exact hne h4.symm
theorem RotateRing_i (x key : Int) (A : Option Addr) (n c : Nat) (l : List Int) (w : World) (hr : Rd w w.heap.size 1 A n (iC l)) (hn : n ≤ 1048576) :
    Calls Try.prog 70 #[.agg #[.int .i64 x, .slice A n c], .int .i64 key] w (RetRing2 (roX x l key) (roL x l key) (roOk x l key) w) := by
  have hln := hr.in_
  subst hln
  go_enter Try.func70, Try.ntmps70
  go_wp2_with fail
  have L := ((Blk.new w 58 #[.int .i64 x, .slice A l.length c]).alloc (.cells #[.int .i64 0, .slice none 0 0] 58))
  have M := (Blk.new1 w (.cells #[.int .i64 x, .slice A l.length c] 58) 58 #[.int .i64 0, .slice none 0 0])
  have hB : Below w.heap.size w ((w.alloc (.cells #[.int .i64 x, .slice A l.length c] 58)).alloc (.cells #[.int .i64 0, .slice none 0 0] 58)) := (by repeat (first | with_reducible exact Below.refl _ _ | with_reducible assumption | refine Below.alloc ?_ (by first | omega | (simp; done) | (simp; omega)) _ | refine Below.setCell ?_ (by first | omega | (simp; done) | (simp; omega)) _ | refine Below.drew ?_ | refine below_drewN ?_ _ | exact Below.refl _ _ | assumption))
  have hz0 : ((w.alloc (.cells #[.int .i64 x, .slice A l.length c] 58)).alloc (.cells #[.int .i64 0, .slice none 0 0] 58)).heap.size = w.heap.size + 2 := by simp
  generalize (w.alloc (.cells #[.int .i64 x, .slice A l.length c] 58)).alloc (.cells #[.int .i64 0, .slice none 0 0] 58) = w0 at L M hB hz0 ⊢
  refine (cloneRing_c x A _ c l _ (hr.up hB) (by omega)).mono ?_
  rintro e w1 ⟨A1, c1, rfl, hc1, ho1, hb1⟩
  have hB1 := then_ hB hb1 hB.size
  have hz1 := hb1.size
  have L1 := L.step1 hb1
  have M1 := M.step1 hb1
  clear hb1 L M hB
  have G := Blk.new w1 58 #[.int .i64 x, .slice A1 l.length c1]
  have hq : Below w1.heap.size w1 (w1.alloc (.cells #[.int .i64 x, .slice A1 l.length c1] 58)) := (by repeat (first | with_reducible exact Below.refl _ _ | with_reducible assumption | refine Below.alloc ?_ (by first | omega | (simp; done) | (simp; omega)) _ | refine Below.setCell ?_ (by first | omega | (simp; done) | (simp; omega)) _ | refine Below.drew ?_ | refine below_drewN ?_ _ | exact Below.refl _ _ | assumption))
  have c0 := (L1.alloc (.cells #[.int .i64 x, .slice A1 l.length c1] 58)).cell 0
  have c1' := (L1.alloc (.cells #[.int .i64 x, .slice A1 l.length c1] 58)).cell 1
  go_wp2_with fail
  clear c0 c1'
  have hz2 : (w1.alloc (.cells #[.int .i64 x, .slice A1 l.length c1] 58)).heap.size = w1.heap.size + 1 := by simp
  have hB2 := then_ hB1 hq hB1.size
  have L2 := L1.step1 hq
  have M2 := M1.step1 hq
  have O2 := (Ow.of_own ho1).below hq (Nat.le_refl _)
  generalize w1.alloc (.cells #[.int .i64 x, .slice A1 l.length c1] 58) = w2 at G hq hz2 hB2 L2 M2 O2 ⊢
  refine (isRing_c x A _ c l _ (hr.up hB2)).mono ?_
  rintro e w3 ⟨rfl, hb3⟩
  have hB3 := then_ hB2 hb3 hB2.size
  have hz3 := hb3.size
  have L3 := L2.step1 hb3
  obtain ⟨M3, qM, fM, _⟩ := M2.step hb3
  obtain ⟨G3, qG, fG, _⟩ := G.step hb3
  have O3 := O2.below hb3 (by omega)
  clear hb3 hq ho1 L1 M1 L2 M2 O2 hB1 hB2 G
  have hno1 : rgOk x l = false ∨ inB key 0 1099511627776 = false → roOk x l key = false := by
    intro h
    cases hh : roOk x l key
    · rfl
    · obtain ⟨a, b⟩ := ro_key hh
      rcases h with h | h
      · rw [a] at h; cases h
      · rw [b] at h; cases h
  cases hk : rgOk x l
  case' true => cases hkk : inB key 0 1099511627776
  case false | true.false =>
    have hno : roOk x l key = false := by first | exact hno1 (.inl hk) | exact hno1 (.inr hkk)
    obtain ⟨e1, e2⟩ := ro_no hno
    go_wp2_with (go_at_call 123; refine (isKey_c _ _).mono ?_; rintro e w' ⟨rfl, rfl⟩)
    refine bodyPost_ret (v := .tuple #[.agg #[.int .i64 x, .slice A1 l.length c1], .bool false]) (by simp [results, Try.results70, go_sem, qM]) rfl ?_
    show RetRing2 _ _ _ _ _ _
    rw [e1, e2, hno]
    refine ⟨_, _, rfl, hc1, ?_, (by repeat (first | with_reducible exact Below.refl _ _ | with_reducible assumption | refine Below.alloc ?_ (by first | omega | (simp; done) | (simp; omega)) _ | refine Below.setCell ?_ (by first | omega | (simp; done) | (simp; omega)) _ | refine Below.drew ?_ | refine below_drewN ?_ _ | exact Below.refl _ _ | assumption))⟩
    refine Ow.mono (lo := w.heap.size + 2) (hi := w1.heap.size) ?_ (by first | omega | (simp; done) | (simp; omega)) (by first | omega | (simp; done) | (simp; omega))
    refine Ow.far ?_ (by first | omega | (simp; done) | (simp; omega)) _
    refine Ow.far ?_ (by first | omega | (simp; done) | (simp; omega)) _
    exact O3.mono (by omega) (Nat.le_refl _)
  clear hno1
  obtain ⟨bd1, bd2, bd3, bd4⟩ := rg_bd hk
  have c0 := L3.cell 0
  have c1' := L3.cell 1
  go_wp2_with (go_at_call 123; refine (isKey_c _ _).mono ?_; rintro e w' ⟨rfl, rfl⟩)
  clear c0 c1'
  refine (cloneRing_c x A _ c l _ (hr.up hB3) (by omega)).mono ?_
  rintro e w4 ⟨A4, c4, rfl, hc4, ho4, hb4⟩
  have hB4 := then_ hB3 hb4 hB3.size
  have hz4 := hb4.size
  have L4 := L3.step1 hb4
  have M4 := M3.step1 hb4
  have G4 := G3.step1 hb4
  have O4 := O3.below hb4 (by omega)
  clear hb4 L3 M3 G3 O3 hB3 qM fM qG fG
  have N := Blk.new w4 58 #[.int .i64 x, .slice A4 l.length c4]
  have hq : Below w4.heap.size w4 (w4.alloc (.cells #[.int .i64 x, .slice A4 l.length c4] 58)) := (by repeat (first | with_reducible exact Below.refl _ _ | with_reducible assumption | refine Below.alloc ?_ (by first | omega | (simp; done) | (simp; omega)) _ | refine Below.setCell ?_ (by first | omega | (simp; done) | (simp; omega)) _ | refine Below.drew ?_ | refine below_drewN ?_ _ | exact Below.refl _ _ | assumption))
  go_upto_region 5 with fail
  have hz5 : w4.heap.size + 1 ≤ (w4.alloc (.cells #[.int .i64 x, .slice A4 l.length c4] 58)).heap.size := by simp
  have hB5 := then_ hB4 hq hB4.size
  have L5 := L4.step1 hq
  have M5 := M4.step1 hq
  have G5 := G4.step1 hq
  have O5 := O4.below hq (by omega)
  have ho5 := own_keep ho4 (fun a ha => hq.block a.block (by subst ha; exact own_lt ho4))
  generalize w4.alloc (.cells #[.int .i64 x, .slice A4 l.length c4] 58) = w5 at N hq hz5 hB5 L5 M5 G5 O5 ho5 ⊢
  clear L4 M4 G4 O4 hB4 hq ho4
  have q5 := N.cell
  have f5 := N.frozen
  go_upto_region 6 with (at_builtin; refine wpList_push w5 rfl (.tmp 22) (.tmp 24) 53 rfl w3.heap.size 3 _ 1 8 Try.underlying53 info3 rfl (by omega) A4 l.length c4 _ [.int .i64 key] rfl ho5 rfl rfl (by simp [Value.oneCell']) (by omega) (by omega) (by omega) ?_; intro A6 c6 w6 hc6 ho6 hg6 _; have N6 := blk_grown ho5 hg6 N (by decide); have q6 := N6.cell; have f6 := N6.frozen)
  have hb6 : Below w3.heap.size w5 w6 := grown_below ho5 hg6 (by omega)
  have hb6' := hb6.size
  have hB6 : Below w.heap.size w (w6.setCell ⟨w4.heap.size, 1, none⟩ (.slice A6 (l.length + 1) c6)) := (hB5.trans (hb6.mono (by have := hB5.size; omega))).setCell (by first | omega | (simp; done) | (simp; omega)) _
  have M6 := (M5.below hb6 (by omega)).far (p := ⟨w4.heap.size, 1, none⟩) (by first | omega | (simp; done) | (simp; omega)) (.slice A6 (l.length + 1) c6)
  have L6 := (L5.below hb6 (by omega)).far (p := ⟨w4.heap.size, 1, none⟩) (by first | omega | (simp; done) | (simp; omega)) (.slice A6 (l.length + 1) c6)
  have G6 := (G5.below hb6 (by omega)).far (p := ⟨w4.heap.size, 1, none⟩) (by first | omega | (simp; done) | (simp; omega)) (.slice A6 (l.length + 1) c6)
  have O6 := (O5.below hb6 (by omega)).far (p := ⟨w4.heap.size, 1, none⟩) (by first | omega | (simp; done) | (simp; omega)) (.slice A6 (l.length + 1) c6)
  have ho7 := own_setfar ho6 N6 (by decide) 1 (.slice A6 (l.length + 1) c6)
  have N7 := N6.set 1 (.slice A6 (l.length + 1) c6)
  simp only [List.setIfInBounds_toArray, List.set_cons_zero, List.set_cons_succ] at N7
  have hz7 : w6.heap.size ≤ (w6.setCell ⟨w4.heap.size, 1, none⟩ (.slice A6 (l.length + 1) c6)).heap.size := by simp
  clear q5 f5 q6 f6 hb6 hg6 ho6 ho5 N N6 M5 L5 G5 O5 hB5
  generalize w6.setCell ⟨w4.heap.size, 1, none⟩ (.slice A6 (l.length + 1) c6) = w7 at hB6 M6 L6 G6 O6 ho7 N7 hz7 ⊢
  rw [show iC l ++ [Value.int .i64 key] = iC (l ++ [key]) from by simp [iC]] at ho7
  obtain ⟨b, rfl⟩ : ∃ b, A6 = some ⟨b, 0, none⟩ := by
    rcases ho7.2 with ⟨_, h0⟩ | ⟨gg, cap, cur, hv, _⟩
    · omega
    · injection hv with hv
      exact ⟨gg, hv⟩
  have q7 := N7.cell
  have f7 := N7.frozen
  have ql0 := L6.cell 0
  have ql1 := L6.cell 1
  by_cases h12 : 12 ≤ l.length
  · have n1 : ¬ c6 = 1 := by omega
    have e0 : roN x l key = (x + 1, (l ++ [key]).drop 1) := by unfold roN; rw [if_pos h12]
    have hle : ((l ++ [key]).drop 1).length = l.length := by simp
    go_wp2_with fail
    go_region
    go_wp2_with fail
    have ho8 := own_setfar (own_setfar ho7 N7 (by decide) 0 (.int .i64 (x + 1))) (Blk.set N7 0 (.int .i64 (x + 1))) (by decide) 1 (.slice (some ⟨b, 1, none⟩) l.length (c6 - 1))
    have OO8 : Ow ((w7.setCell ⟨w4.heap.size, 0, none⟩ (.int .i64 (x + 1))).setCell ⟨w4.heap.size, 1, none⟩ (.slice (some ⟨b, 1, none⟩) l.length (c6 - 1))) w3.heap.size w7.heap.size 3 1 (some ⟨b, 1, none⟩) l.length (iC ((l ++ [key]).drop 1)) := by
      have h := ((Ow.of_own ho8).cut (k := 1) (by omega)).mono (lo' := w3.heap.size) (hi' := w7.heap.size) (Nat.le_refl _) (by first | omega | (simp; done) | (simp; omega))
      simpa [iC, List.map_drop] using h
    have N8 := Blk.set (Blk.set N7 0 (.int .i64 (x + 1))) 1 (.slice (some ⟨b, 1, none⟩) l.length (c6 - 1))
    have hB8 : Below w.heap.size w ((w7.setCell ⟨w4.heap.size, 0, none⟩ (.int .i64 (x + 1))).setCell ⟨w4.heap.size, 1, none⟩ (.slice (some ⟨b, 1, none⟩) l.length (c6 - 1))).drew := (by repeat (first | with_reducible exact Below.refl _ _ | with_reducible assumption | refine Below.alloc ?_ (by first | omega | (simp; done) | (simp; omega)) _ | refine Below.setCell ?_ (by first | omega | (simp; done) | (simp; omega)) _ | refine Below.drew ?_ | refine below_drewN ?_ _ | exact Below.refl _ _ | assumption))
    have G8 := (Blk.far G6 (p := ⟨w4.heap.size, 0, none⟩) (by first | omega | (simp; done) | (simp; omega)) (.int .i64 (x + 1))).far (p := ⟨w4.heap.size, 1, none⟩) (by first | omega | (simp; done) | (simp; omega)) (.slice (some ⟨b, 1, none⟩) l.length (c6 - 1))
    have M8 := (Blk.far M6 (p := ⟨w4.heap.size, 0, none⟩) (by first | omega | (simp; done) | (simp; omega)) (.int .i64 (x + 1))).far (p := ⟨w4.heap.size, 1, none⟩) (by first | omega | (simp; done) | (simp; omega)) (.slice (some ⟨b, 1, none⟩) l.length (c6 - 1))
    have O8 := (Ow.far O6 (p := ⟨w4.heap.size, 0, none⟩) (by first | omega | (simp; done) | (simp; omega)) (.int .i64 (x + 1))).far (p := ⟨w4.heap.size, 1, none⟩) (by first | omega | (simp; done) | (simp; omega)) (.slice (some ⟨b, 1, none⟩) l.length (c6 - 1))
    have hzd : ((w7.setCell ⟨w4.heap.size, 0, none⟩ (.int .i64 (x + 1))).setCell ⟨w4.heap.size, 1, none⟩ (.slice (some ⟨b, 1, none⟩) l.length (c6 - 1))).drew.heap.size = w7.heap.size := by show ((w7.setCell ⟨w4.heap.size, 0, none⟩ (.int .i64 (x + 1))).setCell ⟨w4.heap.size, 1, none⟩ (.slice (some ⟨b, 1, none⟩) l.length (c6 - 1))).heap.size = w7.heap.size; rw [World.size_setCell, World.size_setCell]
    simp only [List.setIfInBounds_toArray, List.set_cons_zero, List.set_cons_succ] at N8
    clear ho8 ho7 q7 f7 ql0 ql1 L6
    replace N8 := N8.drew
    replace G8 := G8.drew
    replace M8 := M8.drew
    replace O8 := O8.drew
    replace OO8 := OO8.drew
    generalize ((w7.setCell ⟨w4.heap.size, 0, none⟩ (.int .i64 (x + 1))).setCell ⟨w4.heap.size, 1, none⟩ (.slice (some ⟨b, 1, none⟩) l.length (c6 - 1))).drew = wd at OO8 N8 hB8 G8 M8 O8 hzd ⊢
    refine (isRing_c (x + 1) (some ⟨b, 1, none⟩) _ (c6 - 1) ((l ++ [key]).drop 1) _ (OO8.rd.mono (by omega))).mono ?_
    rintro e w9 ⟨rfl, hb9⟩
    have hB9 := then_ hB8 hb9 hB8.size
    have hz9 := hb9.size
    obtain ⟨M9, qM, fM, _⟩ := M8.step hb9
    obtain ⟨G9, qG, fG, _⟩ := G8.step hb9
    obtain ⟨N9, qN, fN, _⟩ := N8.step hb9
    have O9 := O8.below hb9 (by omega)
    have OO9 := OO8.below hb9 (by omega)
    clear hb9
    cases hk2 : rgOk (x + 1) ((l ++ [key]).drop 1)
    · have hno : roOk x l key = false := by unfold roOk; rw [e0]; simp only [hk2, Bool.and_false]
      obtain ⟨e1, e2⟩ := ro_no hno
      go_wp2_with fail
      refine bodyPost_ret (v := .tuple #[.agg #[.int .i64 x, .slice A1 l.length c1], .bool false]) (by simp [results, Try.results70, go_sem, qM]) rfl ?_
      show RetRing2 _ _ _ _ _ _
      rw [e1, e2, hno]
      refine ⟨_, _, rfl, hc1, ?_, (by repeat (first | with_reducible exact Below.refl _ _ | with_reducible assumption | refine Below.alloc ?_ (by first | omega | (simp; done) | (simp; omega)) _ | refine Below.setCell ?_ (by first | omega | (simp; done) | (simp; omega)) _ | refine Below.drew ?_ | refine below_drewN ?_ _ | exact Below.refl _ _ | assumption))⟩
      refine Ow.mono (lo := w.heap.size + 2) (hi := w1.heap.size) ?_ (by first | omega | (simp; done) | (simp; omega)) (by first | omega | (simp; done) | (simp; omega))
      refine Ow.far ?_ (by first | omega | (simp; done) | (simp; omega)) _
      refine Ow.far ?_ (by first | omega | (simp; done) | (simp; omega)) _
      exact O9.mono (by omega) (Nat.le_refl _)
    · have hyes : roOk x l key = true := by unfold roOk; rw [e0, hk]; simp only [hk2, Bool.and_true]
      obtain ⟨e1, e2⟩ := ro_yes hyes
      rw [e0] at e1 e2
      go_wp2_with fail
      refine bodyPost_ret (v := .tuple #[.agg #[.int .i64 (x + 1), .slice (some ⟨b, 1, none⟩) l.length (c6 - 1)], .bool true]) (by simp [results, Try.results70, go_sem, qM]) rfl ?_
      show RetRing2 _ _ _ _ _ _
      rw [e1, e2, hyes]
      refine ⟨_, (c6 - 1), by rw [hle], by rw [hle]; omega, ?_, (by repeat (first | with_reducible exact Below.refl _ _ | with_reducible assumption | refine Below.alloc ?_ (by first | omega | (simp; done) | (simp; omega)) _ | refine Below.setCell ?_ (by first | omega | (simp; done) | (simp; omega)) _ | refine Below.drew ?_ | refine below_drewN ?_ _ | exact Below.refl _ _ | assumption))⟩
      rw [hle]
      refine Ow.mono (lo := w3.heap.size) (hi := w7.heap.size) ?_ (by first | omega | (simp; done) | (simp; omega)) (by first | omega | (simp; done) | (simp; omega))
      refine Ow.far ?_ (by first | omega | (simp; done) | (simp; omega)) _
      refine Ow.far ?_ (by first | omega | (simp; done) | (simp; omega)) _
      exact OO9
  · have e0 : roN x l key = (x, l ++ [key]) := by unfold roN; rw [if_neg h12]
    have hle : (l ++ [key]).length = l.length + 1 := by simp
    go_wp2_with fail
    have OO8 := (Ow.of_own ho7).mono (lo' := w3.heap.size) (hi' := w7.heap.size) (by omega) (Nat.le_refl _)
    have N8 := N7
    have hB8 := hB6
    have G8 := G6
    have M8 := M6
    have O8 := O6
    clear ho7 q7 f7 ql0 ql1 L6
    refine (isRing_c x (some ⟨b, 0, none⟩) _ c6 (l ++ [key]) _ OO8.rd).mono ?_
    rintro e w9 ⟨rfl, hb9⟩
    have hB9 := then_ hB8 hb9 hB8.size
    have hz9 := hb9.size
    obtain ⟨M9, qM, fM, _⟩ := M8.step hb9
    obtain ⟨G9, qG, fG, _⟩ := G8.step hb9
    obtain ⟨N9, qN, fN, _⟩ := N8.step hb9
    have O9 := O8.below hb9 (by omega)
    have OO9 := OO8.below hb9 (by omega)
    clear hb9
    cases hk2 : rgOk x (l ++ [key])
    · have hno : roOk x l key = false := by unfold roOk; rw [e0]; simp only [hk2, Bool.and_false]
      obtain ⟨e1, e2⟩ := ro_no hno
      go_wp2_with fail
      refine bodyPost_ret (v := .tuple #[.agg #[.int .i64 x, .slice A1 l.length c1], .bool false]) (by simp [results, Try.results70, go_sem, qM]) rfl ?_
      show RetRing2 _ _ _ _ _ _
      rw [e1, e2, hno]
      refine ⟨_, _, rfl, hc1, ?_, (by repeat (first | with_reducible exact Below.refl _ _ | with_reducible assumption | refine Below.alloc ?_ (by first | omega | (simp; done) | (simp; omega)) _ | refine Below.setCell ?_ (by first | omega | (simp; done) | (simp; omega)) _ | refine Below.drew ?_ | refine below_drewN ?_ _ | exact Below.refl _ _ | assumption))⟩
      refine Ow.mono (lo := w.heap.size + 2) (hi := w1.heap.size) ?_ (by first | omega | (simp; done) | (simp; omega)) (by first | omega | (simp; done) | (simp; omega))
      refine Ow.far ?_ (by first | omega | (simp; done) | (simp; omega)) _
      refine Ow.far ?_ (by first | omega | (simp; done) | (simp; omega)) _
      exact O9.mono (by omega) (Nat.le_refl _)
    · have hyes : roOk x l key = true := by unfold roOk; rw [e0, hk]; simp only [hk2, Bool.and_true]
      obtain ⟨e1, e2⟩ := ro_yes hyes
      rw [e0] at e1 e2
      go_wp2_with fail
      refine bodyPost_ret (v := .tuple #[.agg #[.int .i64 x, .slice (some ⟨b, 0, none⟩) (l.length + 1) c6], .bool true]) (by simp [results, Try.results70, go_sem, qM]) rfl ?_
      show RetRing2 _ _ _ _ _ _
      rw [e1, e2, hyes]
      refine ⟨_, c6, by rw [hle], by rw [hle]; omega, ?_, (by repeat (first | with_reducible exact Below.refl _ _ | with_reducible assumption | refine Below.alloc ?_ (by first | omega | (simp; done) | (simp; omega)) _ | refine Below.setCell ?_ (by first | omega | (simp; done) | (simp; omega)) _ | refine Below.drew ?_ | refine below_drewN ?_ _ | exact Below.refl _ _ | assumption))⟩
      rw [hle]
      refine Ow.mono (lo := w3.heap.size) (hi := w7.heap.size) ?_ (by first | omega | (simp; done) | (simp; omega)) (by first | omega | (simp; done) | (simp; omega))
      refine Ow.far ?_ (by first | omega | (simp; done) | (simp; omega)) _
      refine Ow.far ?_ (by first | omega | (simp; done) | (simp; omega)) _
      exact OO9
end Go.Proofs.Ytmebpmaldcogbaa
