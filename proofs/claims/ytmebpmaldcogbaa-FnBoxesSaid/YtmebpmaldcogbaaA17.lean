/- Boxes by value: size, copy, equality, marks; opening. -/
import Derived.Test.YtmebpmaldcogbaaA16
namespace Go.Proofs.Ytmebpmaldcogbaa
open Go.RowKit Gf
set_option maxRecDepth 100000
set_option maxHeartbeats 400000
theorem quiet_pure {P : Program} {f : FuncId} {args : Array Value} {w : World} {n : Nat} {v : Value} (h : Calls P f args (w.drewN n) (Pure v (w.drewN n))) : Calls P f args (w.drewN n) fun e w'' => e = .returned v ∧ ∃ m, w'' = w.drewN m :=
  h.mono fun _ _ ⟨he, hm⟩ => ⟨he, n, hm.symm⟩
theorem szBox_ok (x t : Int) (A : Option Addr) (n c : Nat) (left : Int) (w : World) (h0 : (n : Int) ≤ left) (h1 : left ≤ 1099511627776) :
    Calls Try.prog 84 #[.agg #[.int .i64 x, .slice A n c, .int .i64 t], .int .i64 left] w (RetV (.int .i64 (left - n)) w) := by
  go_enter Try.func84, Try.ntmps84
  go_wp2_with (go_at_call 125; refine (szByteS_ok _ _ _ _ _ h0 h1).mono ?_; rintro e w' ⟨rfl, rfl⟩)
  go_ret
  exact ⟨rfl, (Below.refl _ _).alloc (Nat.le_refl _) _⟩
theorem szBox_no (x t : Int) (A : Option Addr) (n c : Nat) (left : Int) (w : World) (h0 : left < n) (h1 : -1 ≤ left) (h2 : left ≤ 1099511627776) (hn : n ≤ 9223372036854775807) :
    Calls Try.prog 84 #[.agg #[.int .i64 x, .slice A n c, .int .i64 t], .int .i64 left] w (RetV (.int .i64 (-1)) w) := by
  go_enter Try.func84, Try.ntmps84
  go_wp2_with (go_at_call 125; refine (szByteS_no _ _ _ _ _ h0 h1 h2 hn).mono ?_; rintro e w' ⟨rfl, rfl⟩)
  go_ret
  exact ⟨rfl, (Below.refl _ _).alloc (Nat.le_refl _) _⟩
theorem toBox_c (x t : Int) (A : Option Addr) (n c : Nat) (l : List UInt8) (w : World) (hr : Rd w w.heap.size 1 A n (bC l)) (hn : n ≤ 1048576) :
    Calls Try.prog 86 #[.agg #[.int .i64 x, .slice A n c, .int .i64 t]] w (RetBox x l t w) := by
  have hln := hr.bn
  subst hln
  go_enter Try.func86, Try.ntmps86
  go_wp2_with fail
  have L := ((Blk.new w 87 #[.int .i64 x, .slice A l.length c, .int .i64 t]).alloc (.cells #[.int .i64 0, .slice none 0 0, .int .i64 0] 82)).alloc (.cells #[.int .i64 x, .slice none 0 0, .int .i64 0] 82)
  have M := (Blk.new1 w (.cells #[.int .i64 x, .slice A l.length c, .int .i64 t] 87) 82 #[.int .i64 0, .slice none 0 0, .int .i64 0]).alloc (.cells #[.int .i64 x, .slice none 0 0, .int .i64 0] 82)
  have N := Blk.new2 w (.cells #[.int .i64 x, .slice A l.length c, .int .i64 t] 87) (.cells #[.int .i64 0, .slice none 0 0, .int .i64 0] 82) 82 #[.int .i64 x, .slice none 0 0, .int .i64 0]
  refine (toByteS_c A _ c l _ (hr.up (by repeat (first | with_reducible exact Below.refl _ _ | with_reducible assumption | refine Below.alloc ?_ (by first | omega | (simp; done) | (simp; omega)) _ | refine Below.setCell ?_ (by first | omega | (simp; done) | (simp; omega)) _ | refine Below.drew ?_ | refine below_drewN ?_ _ | exact Below.refl _ _ | assumption))) hn).mono ?_
  rintro e w1 ⟨A1, c1, rfl, hc1, ho1, hb1⟩
  have hz : w.heap.size + 1 + 1 + 1 ≤ w1.heap.size := by have := hb1.size; simp at this; omega
  have hb01 : Below w.heap.size w w1 := then_ (by repeat (first | with_reducible exact Below.refl _ _ | with_reducible assumption | refine Below.alloc ?_ (by first | omega | (simp; done) | (simp; omega)) _ | refine Below.setCell ?_ (by first | omega | (simp; done) | (simp; omega)) _ | refine Below.drew ?_ | refine below_drewN ?_ _ | exact Below.refl _ _ | assumption)) hb1 (by first | omega | (simp; done) | (simp; omega))
  have HB1 := hide hb01
  have HO1 := hide (own_mono (base' := w.heap.size + 1 + 1 + 1) ho1 (by first | omega | (simp; done) | (simp; omega)))
  obtain ⟨L, qL, fL, _⟩ := L.step hb1
  obtain ⟨M, qM, fM, _⟩ := M.step hb1
  obtain ⟨N, qN, fN, _⟩ := N.step hb1
  clear hb1 ho1 hb01
  go_wp2_with fail
  refine bodyPost_ret (v := .agg #[.int .i64 x, .slice A1 l.length c1, .int .i64 t]) (by simp [results, Try.results86, go_sem, qM]) rfl ?_
  have hb01 := HB1.out
  have ho1 := HO1.out
  refine ⟨_, _, rfl, hc1, ?_, (by repeat (first | with_reducible exact Below.refl _ _ | with_reducible assumption | refine Below.alloc ?_ (by first | omega | (simp; done) | (simp; omega)) _ | refine Below.setCell ?_ (by first | omega | (simp; done) | (simp; omega)) _ | refine Below.drew ?_ | refine below_drewN ?_ _ | exact Below.refl _ _ | assumption))⟩
  exact own_mono (base := w.heap.size + 1 + 1 + 1) (by repeat (first | with_reducible assumption | with_reducible refine ownsRow_setCell_below ?_ (by first | omega | (simp; done) | (simp; omega)) _ | with_reducible refine World.ownsRow.alloc ?_ _ | exact own_mono (by assumption) (by first | omega | (simp; done) | (simp; omega)) | assumption | refine ownsRow_setCell_below ?_ (by first | omega | (simp; done) | (simp; omega)) _ | refine World.ownsRow.alloc ?_ _)) (by omega)
theorem eqBox_c (x t : Int) (A A' : Option Addr) (n c c' : Nat) (l : List UInt8) (w : World) (hr : Rd w w.heap.size 1 A n (bC l)) (hr' : Rd w w.heap.size 1 A' n (bC l)) :
    Calls Try.prog 81 #[.agg #[.int .i64 x, .slice A n c, .int .i64 t], .agg #[.int .i64 x, .slice A' n c', .int .i64 t]] w (RetV (.bool true) w) := by
  go_enter Try.func81, Try.ntmps81
  go_wp2_with fail
  have L := (Blk.new w 82 #[.int .i64 x, .slice A n c, .int .i64 t]).alloc (.cells #[.int .i64 x, .slice A' n c', .int .i64 t] 82)
  have M := Blk.new1 w (.cells #[.int .i64 x, .slice A n c, .int .i64 t] 82) 82 #[.int .i64 x, .slice A' n c', .int .i64 t]
  refine (eqByteS_c A A' n c c' l _ _ _ (hr.below (by repeat (first | with_reducible exact Below.refl _ _ | with_reducible assumption | refine Below.alloc ?_ (by first | omega | (simp; done) | (simp; omega)) _ | refine Below.setCell ?_ (by first | omega | (simp; done) | (simp; omega)) _ | refine Below.drew ?_ | refine below_drewN ?_ _ | exact Below.refl _ _ | assumption)) (Nat.le_refl _)) (hr'.below (by repeat (first | with_reducible exact Below.refl _ _ | with_reducible assumption | refine Below.alloc ?_ (by first | omega | (simp; done) | (simp; omega)) _ | refine Below.setCell ?_ (by first | omega | (simp; done) | (simp; omega)) _ | refine Below.drew ?_ | refine below_drewN ?_ _ | exact Below.refl _ _ | assumption)) (Nat.le_refl _))).mono ?_
  rintro e w1 ⟨rfl, hb1⟩
  have hb01 : Below w.heap.size w w1 := then_ (by repeat (first | with_reducible exact Below.refl _ _ | with_reducible assumption | refine Below.alloc ?_ (by first | omega | (simp; done) | (simp; omega)) _ | refine Below.setCell ?_ (by first | omega | (simp; done) | (simp; omega)) _ | refine Below.drew ?_ | refine below_drewN ?_ _ | exact Below.refl _ _ | assumption)) hb1 (by first | omega | (simp; done) | (simp; omega))
  obtain ⟨L, qL, _, _⟩ := L.step hb1
  obtain ⟨M, qM, _, _⟩ := M.step hb1
  clear hb1
  go_wp2_with fail
  go_ret
  exact ⟨rfl, hb01⟩
theorem markBox_m (x t : Int) (A : Option Addr) (n c : Nat) (l : List UInt8) (w : World) (lo hi : Nat) (k : Int) (hr : Ow w lo hi 5 1 A n (bC l)) (hhi : hi ≤ w.heap.size) (hk0 : 0 ≤ k) (hk1 : k ≤ 1099511627776) (hn : n ≤ 1099511627776) :
    Calls Try.prog 82 #[.agg #[.int .i64 x, .slice A n c, .int .i64 t], .int .i64 k] w (MarkP (k + n) lo hi 5 A n (bC (markB k n)) w) := by
  go_enter Try.func82, Try.ntmps82
  go_wp2_with fail
  have hX := Below.alloc (Below.refl w.heap.size w) (Nat.le_refl _) (.cells #[.int .i64 x, .slice A n c, .int .i64 t] 82)
  refine (markByteS_c A n c l _ lo hi k (hr.below hX hhi) hk0 hk1 hn).mono ?_
  rintro e w1 ⟨rfl, ho1, _, hch⟩
  have hBe : Mk lo hi w w1 := Mk.pre hX (Mk.of_chg hch)
  go_wp2_with fail
  go_ret
  exact ⟨rfl, ho1, hBe⟩
theorem markByteS_m (A : Option Addr) (n c : Nat) (l : List UInt8) (w : World) (lo hi : Nat) (k : Int) (hr : Ow w lo hi 5 1 A n (bC l)) (hk0 : 0 ≤ k) (hk1 : k ≤ 1099511627776) (hn : n ≤ 1099511627776) :
    Calls Try.prog 49 #[.slice A n c, .int .i64 k] w (MarkP (k + n) lo hi 5 A n (bC (markB k n)) w) :=
  (markByteS_c A n c l w lo hi k hr hk0 hk1 hn).mono fun _ _ ⟨h1, h2, _, h4⟩ => ⟨h1, h2, Mk.of_chg h4⟩
theorem heldBox_c (x t : Int) (A : Option Addr) (n c : Nat) (w : World) (hi : Nat) (k : Int) (hr : Rd w hi 1 A n (bC (markB k n))) (hhi : hi ≤ w.heap.size) (hk0 : 0 ≤ k) (hk1 : k ≤ 1099511627776) (hn : n ≤ 1099511627776) :
    Calls Try.prog 83 #[.agg #[.int .i64 x, .slice A n c, .int .i64 t], .int .i64 k] w (RetV (.int .i64 (k + n)) w) := by
  go_enter Try.func83, Try.ntmps83
  go_wp2_with fail
  refine (heldByteS_c A n c _ hi k (hr.below (by repeat (first | with_reducible exact Below.refl _ _ | with_reducible assumption | refine Below.alloc ?_ (by first | omega | (simp; done) | (simp; omega)) _ | refine Below.setCell ?_ (by first | omega | (simp; done) | (simp; omega)) _ | refine Below.drew ?_ | refine below_drewN ?_ _ | exact Below.refl _ _ | assumption)) hhi) hk0 hk1 hn).mono ?_
  rintro e w1 ⟨rfl, hb1⟩
  have hB : Below w.heap.size w w1 := then_ (by repeat (first | with_reducible exact Below.refl _ _ | with_reducible assumption | refine Below.alloc ?_ (by first | omega | (simp; done) | (simp; omega)) _ | refine Below.setCell ?_ (by first | omega | (simp; done) | (simp; omega)) _ | refine Below.drew ?_ | refine below_drewN ?_ _ | exact Below.refl _ _ | assumption)) hb1 (by first | omega | (simp; done) | (simp; omega))
  go_wp2_with fail
  go_ret
  exact ⟨rfl, hB⟩
def obOk (key x t : Int) (l : List UInt8) : Bool := tagOk key x l.length && (tagB key x l == t)
def obL (key x t : Int) (l : List UInt8) : List UInt8 := if obOk key x t l then xB key x l else []
theorem ob_cases {k x t : Int} {l : List UInt8} : (obOk k x t l = false ∧ obL k x t l = [] ∧ (inB k 0 1099511627776 = false ∨ (inB k 0 1099511627776 = true ∧ inB x 0 1099511627776 = false) ∨ (inB k 0 1099511627776 = true ∧ inB x 0 1099511627776 = true ∧ 2000 < l.length)))
    ∨ (tagOk k x l.length = true ∧ ((obOk k x t l = false ∧ obL k x t l = [] ∧ (tagB k x l == t) = false) ∨ (obOk k x t l = true ∧ obL k x t l = xB k x l ∧ (tagB k x l == t) = true))) := by
  unfold obL obOk
  cases h1 : tagOk k x l.length
  · exact .inl ⟨rfl, rfl, tag_cases h1⟩
  · right
    refine ⟨rfl, ?_⟩
    cases h2 : (tagB k x l == t)
    · exact .inl ⟨rfl, rfl, rfl⟩
    · exact .inr ⟨rfl, rfl, rfl⟩
theorem OpenBox_s (key x t : Int) (A : Option Addr) (n c : Nat) (l : List UInt8) (w : World) (hr : Rd w w.heap.size 1 A n (bC l)) :
    Calls Try.prog 85 #[.int .i64 key, .agg #[.int .i64 x, .slice A n c, .int .i64 t]] w (RetRow2 (obL key x t l) (obOk key x t l) w) := by
  have hln := hr.bn
  have hbd := hr.bd
  subst hln
  rcases ob_cases (k := key) (x := x) (t := t) (l := l) with ⟨e1, e2, h⟩ | ⟨h0, h⟩
  · rw [e1, e2]
    clear e1 e2
    rcases h with h1 | ⟨h1, h2⟩ | ⟨h1, h2, h3⟩
    case' inr.inr => replace h3 : decide (2000 < (l.length : Int)) = true := by simp; omega
    all_goals
      go_enter Try.func85, Try.ntmps85
      go_wp2_with fail
      go_quiet ((go_at_call 122; exact quiet_pure (l04Key_c _ _)))
      go_wp2_with fail
      go_ret2
      exact ⟨_, _, rfl, Nat.le_refl _, World.ownsRow_nil _ _ _ _, (by repeat (first | with_reducible exact Below.refl _ _ | with_reducible assumption | refine Below.alloc ?_ (by first | omega | (simp; done) | (simp; omega)) _ | refine Below.setCell ?_ (by first | omega | (simp; done) | (simp; omega)) _ | refine Below.drew ?_ | refine below_drewN ?_ _ | exact Below.refl _ _ | assumption))⟩
  · obtain ⟨h1, h2, h3⟩ := tag_true h0
    have h3' : decide (2000 < (l.length : Int)) = false := by simp; omega
    obtain ⟨b1, b2⟩ := inB_true.1 h1
    obtain ⟨b3, b4⟩ := inB_true.1 h2
    have CT : Hid (∀ W, Rd W W.heap.size 1 A l.length (bC l) → Calls Try.prog 63 #[.int .i64 key, .int .i64 x, .slice A l.length c] W (RetV (.int .i64 (tagB key x l)) W)) := by
      intro W hW
      have := TagOf_s key x A l.length c l W hW
      unfold tag_ at this
      rw [h0] at this
      exact this
    rcases h with ⟨e1, e2, h4⟩ | ⟨e1, e2, h4⟩
    · rw [e1, e2]
      have h5 : (tagB key x l != t) = true := by simp [bne, h4]
      clear e1 e2 h0
      go_enter Try.func85, Try.ntmps85
      go_wp2_with fail
      have L := Blk.new w 82 #[.int .i64 x, .slice A l.length c, .int .i64 t]
      have hB : Below w.heap.size w (w.alloc (.cells #[.int .i64 x, .slice A l.length c, .int .i64 t] 82)) := (by repeat (first | with_reducible exact Below.refl _ _ | with_reducible assumption | refine Below.alloc ?_ (by first | omega | (simp; done) | (simp; omega)) _ | refine Below.setCell ?_ (by first | omega | (simp; done) | (simp; omega)) _ | refine Below.drew ?_ | refine below_drewN ?_ _ | exact Below.refl _ _ | assumption))
      replace L := L.drew
      replace hB := hB.drew
      first | go_region_held3 (fun w' => w'.cell? ⟨w.heap.size, 0, none⟩ = some (.int .i64 x) ∧ w'.cell? ⟨w.heap.size, 1, none⟩ = some (.slice A l.length c) ∧ w'.cell? ⟨w.heap.size, 2, none⟩ = some (.int .i64 t)) (exact ⟨L.cell 0, L.cell 1, L.cell 2⟩) (first | (go_at_call 122; refine (l04Key_c _ _).mono ?_; rintro e w' ⟨rfl, rfl⟩) | (go_at_call 63; refine (CT.out _ (hr.up hB)).mono ?_; rintro e w1 ⟨rfl, hb1⟩; replace hB := then_ hB hb1 hB.size; obtain ⟨L, qL, _, _⟩ := L.step hb1)) | fail
      go_wp2_with fail
      go_ret2
      exact ⟨_, _, rfl, Nat.le_refl _, World.ownsRow_nil _ _ _ _, hB⟩
    · rw [e1, e2]
      have h5 : (tagB key x l != t) = false := by simp [bne, h4]
      have hxl := hide (xB_length key x l)
      clear e1 e2 h0
      go_enter Try.func85, Try.ntmps85
      go_wp2_with fail
      have L := Blk.new w 82 #[.int .i64 x, .slice A l.length c, .int .i64 t]
      have hB : Below w.heap.size w (w.alloc (.cells #[.int .i64 x, .slice A l.length c, .int .i64 t] 82)) := (by repeat (first | with_reducible exact Below.refl _ _ | with_reducible assumption | refine Below.alloc ?_ (by first | omega | (simp; done) | (simp; omega)) _ | refine Below.setCell ?_ (by first | omega | (simp; done) | (simp; omega)) _ | refine Below.drew ?_ | refine below_drewN ?_ _ | exact Below.refl _ _ | assumption))
      replace L := L.drew
      replace hB := hB.drew
      first | go_region_held3 (fun w' => w'.cell? ⟨w.heap.size, 0, none⟩ = some (.int .i64 x) ∧ w'.cell? ⟨w.heap.size, 1, none⟩ = some (.slice A l.length c) ∧ w'.cell? ⟨w.heap.size, 2, none⟩ = some (.int .i64 t)) (exact ⟨L.cell 0, L.cell 1, L.cell 2⟩) (first | (go_at_call 122; refine (l04Key_c _ _).mono ?_; rintro e w' ⟨rfl, rfl⟩) | (go_at_call 63; refine (CT.out _ (hr.up hB)).mono ?_; rintro e w1 ⟨rfl, hb1⟩; replace hB := then_ hB hb1 hB.size; obtain ⟨L, qL, _, _⟩ := L.step hb1)) | fail
      go_wp2_with fail
      refine (l04Mask_c key x A _ c l _ b1 b2 b3 b4 h3 (hr.up hB)).mono ?_
      rintro e w2 ⟨A2, c2, rfl, hc2, ho2, hb2⟩
      have hz := hB.size
      replace hB := then_ hB hb2 hB.size
      have hxn := hxl.out
      go_wp2_with fail
      go_ret2
      exact ⟨_, _, by rw [hxn]; rfl, by rw [hxn]; exact hc2, by rw [hxn]; exact own_mono ho2 hz, hB⟩
theorem openBox_c (key x t : Int) (A : Option Addr) (n c : Nat) (l : List UInt8) (w : World) (hr : Rd w w.heap.size 1 A n (bC l)) (hk : inB key 0 1099511627776 = true) :
    Calls Try.prog 141 #[.int .i64 key, .agg #[.int .i64 x, .slice A n c, .int .i64 t]] w (RetRow2 (obL key x t l) (obOk key x t l) w) := by
  have hln := hr.bn
  have hbd := hr.bd
  subst hln
  rcases ob_cases (k := key) (x := x) (t := t) (l := l) with ⟨e1, e2, h⟩ | ⟨h0, h⟩
  · rw [e1, e2]
    clear e1 e2
    rcases h with h1 | ⟨h1, h2⟩ | ⟨h1, h2, h3⟩
    · rw [hk] at h1
      cases h1
    case' inr.inr => replace h3 : decide (2000 < (l.length : Int)) = true := by simp; omega
    all_goals
      go_enter Try.func141, Try.ntmps141
      go_wp2_with fail
      go_quiet ((go_at_call 123; exact quiet_pure (isKey_c _ _)))
      go_wp2_with fail
      go_ret2
      exact ⟨_, _, rfl, Nat.le_refl _, World.ownsRow_nil _ _ _ _, (by repeat (first | with_reducible exact Below.refl _ _ | with_reducible assumption | refine Below.alloc ?_ (by first | omega | (simp; done) | (simp; omega)) _ | refine Below.setCell ?_ (by first | omega | (simp; done) | (simp; omega)) _ | refine Below.drew ?_ | refine below_drewN ?_ _ | exact Below.refl _ _ | assumption))⟩
  · obtain ⟨h1, h2, h3⟩ := tag_true h0
    have h3' : decide (2000 < (l.length : Int)) = false := by simp; omega
    obtain ⟨b1, b2⟩ := inB_true.1 h1
    obtain ⟨b3, b4⟩ := inB_true.1 h2
    have CT : Hid (∀ W, Rd W W.heap.size 1 A l.length (bC l) → Calls Try.prog 133 #[.int .i64 key, .int .i64 x, .slice A l.length c] W (RetV (.int .i64 (tagB key x l)) W)) := fun W hW => tagOf_c key x A l.length c l W b1 b2 b3 b4 hW h3
    rcases h with ⟨e1, e2, h4⟩ | ⟨e1, e2, h4⟩
    · rw [e1, e2]
      have h5 : (tagB key x l != t) = true := by simp [bne, h4]
      clear e1 e2 h0
      go_enter Try.func141, Try.ntmps141
      go_wp2_with fail
      have L := Blk.new w 82 #[.int .i64 x, .slice A l.length c, .int .i64 t]
      have hB : Below w.heap.size w (w.alloc (.cells #[.int .i64 x, .slice A l.length c, .int .i64 t] 82)) := (by repeat (first | with_reducible exact Below.refl _ _ | with_reducible assumption | refine Below.alloc ?_ (by first | omega | (simp; done) | (simp; omega)) _ | refine Below.setCell ?_ (by first | omega | (simp; done) | (simp; omega)) _ | refine Below.drew ?_ | refine below_drewN ?_ _ | exact Below.refl _ _ | assumption))
      replace L := L.drew
      replace hB := hB.drew
      first | go_region_held3 (fun w' => w'.cell? ⟨w.heap.size, 0, none⟩ = some (.int .i64 x) ∧ w'.cell? ⟨w.heap.size, 1, none⟩ = some (.slice A l.length c) ∧ w'.cell? ⟨w.heap.size, 2, none⟩ = some (.int .i64 t)) (exact ⟨L.cell 0, L.cell 1, L.cell 2⟩) (first | (go_at_call 123; refine (isKey_c _ _).mono ?_; rintro e w' ⟨rfl, rfl⟩) | (go_at_call 133; refine (CT.out _ (hr.up hB)).mono ?_; rintro e w1 ⟨rfl, hb1⟩; replace hB := then_ hB hb1 hB.size; obtain ⟨L, qL, _, _⟩ := L.step hb1)) | fail
      go_wp2_with fail
      go_ret2
      exact ⟨_, _, rfl, Nat.le_refl _, World.ownsRow_nil _ _ _ _, hB⟩
    · rw [e1, e2]
      have h5 : (tagB key x l != t) = false := by simp [bne, h4]
      have hxl := hide (xB_length key x l)
      clear e1 e2 h0
      go_enter Try.func141, Try.ntmps141
      go_wp2_with fail
      have L := Blk.new w 82 #[.int .i64 x, .slice A l.length c, .int .i64 t]
      have hB : Below w.heap.size w (w.alloc (.cells #[.int .i64 x, .slice A l.length c, .int .i64 t] 82)) := (by repeat (first | with_reducible exact Below.refl _ _ | with_reducible assumption | refine Below.alloc ?_ (by first | omega | (simp; done) | (simp; omega)) _ | refine Below.setCell ?_ (by first | omega | (simp; done) | (simp; omega)) _ | refine Below.drew ?_ | refine below_drewN ?_ _ | exact Below.refl _ _ | assumption))
      replace L := L.drew
      replace hB := hB.drew
      first | go_region_held3 (fun w' => w'.cell? ⟨w.heap.size, 0, none⟩ = some (.int .i64 x) ∧ w'.cell? ⟨w.heap.size, 1, none⟩ = some (.slice A l.length c) ∧ w'.cell? ⟨w.heap.size, 2, none⟩ = some (.int .i64 t)) (exact ⟨L.cell 0, L.cell 1, L.cell 2⟩) (first | (go_at_call 123; refine (isKey_c _ _).mono ?_; rintro e w' ⟨rfl, rfl⟩) | (go_at_call 133; refine (CT.out _ (hr.up hB)).mono ?_; rintro e w1 ⟨rfl, hb1⟩; replace hB := then_ hB hb1 hB.size; obtain ⟨L, qL, _, _⟩ := L.step hb1)) | fail
      go_wp2_with fail
      refine (crossed_c key x A _ c l _ b1 b2 b3 b4 h3 (hr.up hB)).mono ?_
      rintro e w2 ⟨A2, c2, rfl, hc2, ho2, hb2⟩
      have hz := hB.size
      replace hB := then_ hB hb2 hB.size
      have hxn := hxl.out
      go_wp2_with fail
      go_ret2
      exact ⟨_, _, by rw [hxn]; rfl, by rw [hxn]; exact hc2, by rw [hxn]; exact own_mono ho2 hz, hB⟩
theorem OpenBox_i (key x t : Int) (A : Option Addr) (n c : Nat) (l : List UInt8) (w : World) (hr : Rd w w.heap.size 1 A n (bC l)) :
    Calls Try.prog 87 #[.int .i64 key, .agg #[.int .i64 x, .slice A n c, .int .i64 t]] w (RetRow2 (obL key x t l) (obOk key x t l) w) := by
  cases hk : inB key 0 1099511627776
  · have e : obOk key x t l = false := by unfold obOk tagOk; rw [hk]; rfl
    have e2 : obL key x t l = [] := by unfold obL; rw [e]; rfl
    rw [e, e2]
    clear e e2
    go_enter Try.func87, Try.ntmps87
    go_wp2_with (go_at_call 123; refine (isKey_c _ _).mono ?_; rintro e w' ⟨rfl, rfl⟩)
    go_ret2
    exact ⟨_, _, rfl, Nat.le_refl _, World.ownsRow_nil _ _ _ _, (by repeat (first | with_reducible exact Below.refl _ _ | with_reducible assumption | refine Below.alloc ?_ (by first | omega | (simp; done) | (simp; omega)) _ | refine Below.setCell ?_ (by first | omega | (simp; done) | (simp; omega)) _ | refine Below.drew ?_ | refine below_drewN ?_ _ | exact Below.refl _ _ | assumption))⟩
  · go_enter Try.func87, Try.ntmps87
    go_wp2_with (go_at_call 123; refine (isKey_c _ _).mono ?_; rintro e w' ⟨rfl, rfl⟩)
    refine (openBox_c key x t A n c l _ (hr.up (by repeat (first | with_reducible exact Below.refl _ _ | with_reducible assumption | refine Below.alloc ?_ (by first | omega | (simp; done) | (simp; omega)) _ | refine Below.setCell ?_ (by first | omega | (simp; done) | (simp; omega)) _ | refine Below.drew ?_ | refine below_drewN ?_ _ | exact Below.refl _ _ | assumption))) hk).mono ?_
    rintro e w1 ⟨A1, c1, rfl, hc1, ho1, hb1⟩
    have hB : Below w.heap.size w w1 := then_ (by repeat (first | with_reducible exact Below.refl _ _ | with_reducible assumption | refine Below.alloc ?_ (by first | omega | (simp; done) | (simp; omega)) _ | refine Below.setCell ?_ (by first | omega | (simp; done) | (simp; omega)) _ | refine Below.drew ?_ | refine below_drewN ?_ _ | exact Below.refl _ _ | assumption)) hb1 (by first | omega | (simp; done) | (simp; omega))
    go_wp2_with fail
    go_ret2
    exact ⟨_, _, rfl, hc1, own_mono ho1 (by simp), hB⟩
end Go.Proofs.Ytmebpmaldcogbaa
