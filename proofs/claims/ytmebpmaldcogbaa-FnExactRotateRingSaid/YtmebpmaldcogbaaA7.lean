/- One key ring by value: size, copy, equality, marks. -/
import Derived.Test.YtmebpmaldcogbaaA6
import Derived.Test.YtmebpmaldcogbaaA5
namespace Go.Proofs.Ytmebpmaldcogbaa
open Go.RowKit Gf
set_option maxRecDepth 100000
set_option maxHeartbeats 400000
theorem szIntS_ok (A : Option Addr) (n c : Nat) (left : Int) (w : World) (h0 : (n : Int) ≤ left) (h1 : left ≤ 1099511627776) :
    Calls Try.prog 128 #[.slice A n c, .int .i64 left] w (Pure (.int .i64 (left - n)) w) := by
  go_enter Try.func128, Try.ntmps128
  go_wp2
  go_ret
  exact ⟨rfl, rfl⟩
theorem szIntS_no (A : Option Addr) (n c : Nat) (left : Int) (w : World) (h0 : left < n) (h1 : -1 ≤ left) (h2 : left ≤ 1099511627776) (hn : n ≤ 9223372036854775807) :
    Calls Try.prog 128 #[.slice A n c, .int .i64 left] w (Pure (.int .i64 (-1)) w) := by
  go_enter Try.func128, Try.ntmps128
  go_wp2
  go_ret
  exact ⟨rfl, rfl⟩
theorem szKeyRing_ok (x : Int) (A : Option Addr) (n c : Nat) (left : Int) (w : World) (h0 : (n : Int) ≤ left) (h1 : left ≤ 1099511627776) :
    Calls Try.prog 58 #[.agg #[.int .i64 x, .slice A n c], .int .i64 left] w (RetV (.int .i64 (left - n)) w) := by
  go_enter Try.func58, Try.ntmps58
  go_wp2_with (go_at_call 128; refine (szIntS_ok _ _ _ _ _ h0 h1).mono ?_; rintro e w' ⟨rfl, rfl⟩)
  go_ret
  exact ⟨rfl, (Below.refl _ _).alloc (Nat.le_refl _) _⟩
theorem szKeyRing_no (x : Int) (A : Option Addr) (n c : Nat) (left : Int) (w : World) (h0 : left < n) (h1 : -1 ≤ left) (h2 : left ≤ 1099511627776) (hn : n ≤ 9223372036854775807) :
    Calls Try.prog 58 #[.agg #[.int .i64 x, .slice A n c], .int .i64 left] w (RetV (.int .i64 (-1)) w) := by
  go_enter Try.func58, Try.ntmps58
  go_wp2_with (go_at_call 128; refine (szIntS_no _ _ _ _ _ h0 h1 h2 hn).mono ?_; rintro e w' ⟨rfl, rfl⟩)
  go_ret
  exact ⟨rfl, (Below.refl _ _).alloc (Nat.le_refl _) _⟩
/-- a share in new memory -/
def RetRing (x : Int) (l : List Int) (w : World) (en : Ending) (w' : World) : Prop :=
  ∃ A c, en = .returned (.agg #[.int .i64 x, .slice A l.length c]) ∧ l.length ≤ c ∧ w'.ownsRow w.heap.size 3 1 (.slice A l.length c) l.length (iC l) ∧ Below w.heap.size w w'
theorem toKeyRing_c (x : Int) (A : Option Addr) (n c : Nat) (l : List Int) (w : World) (hr : Rd w w.heap.size 1 A n (iC l)) (hn : n ≤ 1048576) :
    Calls Try.prog 60 #[.agg #[.int .i64 x, .slice A n c]] w (RetRing x l w) := by
  have hln := hr.in_
  subst hln
  go_enter Try.func60, Try.ntmps60
  go_wp2_with fail
  refine (toIntS_c A _ c l _ (hr.up (by repeat (first | exact Below.refl _ _ | assumption | refine Below.alloc ?_ (by first | omega | (simp; done) | (simp; omega)) _ | refine Below.setCell ?_ (by first | omega | (simp; done) | (simp; omega)) _ | refine Below.drew ?_ | refine below_drewN ?_ _))) hn).mono ?_
  rintro e w1 ⟨A1, c1, rfl, hc1, ho1, hb1⟩
  have hz : w.heap.size + 1 + 1 + 1 ≤ w1.heap.size := by have := hb1.size; simp at this; omega
  have hb01 : Below w.heap.size w w1 := then_ (by repeat (first | exact Below.refl _ _ | assumption | refine Below.alloc ?_ (by first | omega | (simp; done) | (simp; omega)) _ | refine Below.setCell ?_ (by first | omega | (simp; done) | (simp; omega)) _ | refine Below.drew ?_ | refine below_drewN ?_ _)) hb1 (by first | omega | (simp; done) | (simp; omega))
  have HB1 := hide hb01
  have HO1 := hide (own_mono (base' := w.heap.size + 1 + 1 + 1) ho1 (by first | omega | (simp; done) | (simp; omega)))
  obtain ⟨hcl, hfr⟩ := bcell hb1
  clear hb1 ho1 hb01
  go_wp2_with fail
  refine bodyPost_ret (v := .agg #[.int .i64 x, .slice A1 l.length c1]) (by simp [results, Try.results60, go_sem, hcl]) rfl ?_
  have hb01 := HB1.out
  have ho1 := HO1.out
  refine ⟨_, _, rfl, hc1, ?_, (by repeat (first | exact Below.refl _ _ | assumption | refine Below.alloc ?_ (by first | omega | (simp; done) | (simp; omega)) _ | refine Below.setCell ?_ (by first | omega | (simp; done) | (simp; omega)) _ | refine Below.drew ?_ | refine below_drewN ?_ _))⟩
  exact own_mono (base := w.heap.size + 1 + 1 + 1) (by repeat (first | assumption | exact own_mono (by assumption) (by first | omega | (simp; done) | (simp; omega)) | refine ownsRow_setCell_below ?_ (by first | omega | (simp; done) | (simp; omega)) _ | refine World.ownsRow.alloc ?_ _)) (by omega)
theorem eqKeyRing_c (x : Int) (A A' : Option Addr) (n c c' : Nat) (l : List Int) (w : World) (hr : Rd w w.heap.size 1 A n (iC l)) (hr' : Rd w w.heap.size 1 A' n (iC l)) :
    Calls Try.prog 62 #[.agg #[.int .i64 x, .slice A n c], .agg #[.int .i64 x, .slice A' n c']] w (RetV (.bool true) w) := by
  go_enter Try.func62, Try.ntmps62
  go_wp2_with fail
  refine (eqIntS_c A A' n c c' l _ _ _ (hr.below (by repeat (first | exact Below.refl _ _ | assumption | refine Below.alloc ?_ (by first | omega | (simp; done) | (simp; omega)) _ | refine Below.setCell ?_ (by first | omega | (simp; done) | (simp; omega)) _ | refine Below.drew ?_ | refine below_drewN ?_ _)) (Nat.le_refl _)) (hr'.below (by repeat (first | exact Below.refl _ _ | assumption | refine Below.alloc ?_ (by first | omega | (simp; done) | (simp; omega)) _ | refine Below.setCell ?_ (by first | omega | (simp; done) | (simp; omega)) _ | refine Below.drew ?_ | refine below_drewN ?_ _)) (Nat.le_refl _))).mono ?_
  rintro e w1 ⟨rfl, hb1⟩
  have hb01 : Below w.heap.size w w1 := then_ (by repeat (first | exact Below.refl _ _ | assumption | refine Below.alloc ?_ (by first | omega | (simp; done) | (simp; omega)) _ | refine Below.setCell ?_ (by first | omega | (simp; done) | (simp; omega)) _ | refine Below.drew ?_ | refine below_drewN ?_ _)) hb1 (by first | omega | (simp; done) | (simp; omega))
  go_wp2_with fail
  go_ret
  exact ⟨rfl, hb01⟩
theorem markKeyRing_c (x : Int) (A : Option Addr) (n c : Nat) (l : List Int) (w : World) (lo hi : Nat) (k : Int) (hr : Ow w lo hi 3 1 A n (iC l)) (hlo : lo ≤ w.heap.size) (hhi : hi ≤ w.heap.size) (hk0 : 0 ≤ k) (hk1 : k ≤ 1099511627776) (hn : n ≤ 1099511627776) :
    Calls Try.prog 67 #[.agg #[.int .i64 x, .slice A n c], .int .i64 k] w (fun e w' => e = .returned (.int .i64 (k + n)) ∧ Ow w' lo hi 3 1 A n (iC (markI k n)) ∧ Below lo w w') := by
  go_enter Try.func67, Try.ntmps67
  go_wp2_with fail
  have hX := Below.alloc (Below.refl w.heap.size w) (Nat.le_refl _) (.cells #[.int .i64 x, .slice A n c] 58)
  refine (markIntS_c A n c l _ lo hi k (hr.below hX hhi) hk0 hk1 hn).mono ?_
  rintro e w1 ⟨rfl, ho1, _, hch⟩
  have hBe : Below lo w w1 := (Below.alloc (Below.refl lo w) hlo _).trans hch.below
  go_wp2_with fail
  go_ret
  exact ⟨rfl, ho1, hBe⟩
theorem heldKeyRing_c (x : Int) (A : Option Addr) (n c : Nat) (w : World) (hi : Nat) (k : Int) (hr : Rd w hi 1 A n (iC (markI k n))) (hhi : hi ≤ w.heap.size) (hk0 : 0 ≤ k) (hk1 : k ≤ 1099511627776) (hn : n ≤ 1099511627776) :
    Calls Try.prog 68 #[.agg #[.int .i64 x, .slice A n c], .int .i64 k] w (RetV (.int .i64 (k + n)) w) := by
  go_enter Try.func68, Try.ntmps68
  go_wp2_with fail
  refine (heldIntS_c A n c _ hi k (hr.below (by repeat (first | exact Below.refl _ _ | assumption | refine Below.alloc ?_ (by first | omega | (simp; done) | (simp; omega)) _ | refine Below.setCell ?_ (by first | omega | (simp; done) | (simp; omega)) _ | refine Below.drew ?_ | refine below_drewN ?_ _)) hhi) hk0 hk1 hn).mono ?_
  rintro e w1 ⟨rfl, hb1⟩
  have hB : Below w.heap.size w w1 := then_ (by repeat (first | exact Below.refl _ _ | assumption | refine Below.alloc ?_ (by first | omega | (simp; done) | (simp; omega)) _ | refine Below.setCell ?_ (by first | omega | (simp; done) | (simp; omega)) _ | refine Below.drew ?_ | refine below_drewN ?_ _)) hb1 (by first | omega | (simp; done) | (simp; omega))
  go_wp2_with fail
  go_ret
  exact ⟨rfl, hB⟩
def okK (y : Int) : Bool := inB y 0 1099511627776
theorem isRing1_c (y : Int) (w : World) : Calls Try.prog 152 #[.int .i64 y] w (Pure (.bool (!okK y)) w) := by
  have e : Hid (okK y = inB y 0 1099511627776) := rfl
  cases h : inB y 0 1099511627776
  all_goals
    rw [h] at e
    go_enter Try.func152, Try.ntmps152
    go_wp2_with (go_at_call 123; refine (isKey_c _ _).mono ?_; rintro e w' ⟨rfl, rfl⟩)
    go_ret
    exact ⟨by rw [e.out]; rfl, rfl⟩
/-- the place of the first number that is no key, or the length -/
def badAt (l : List Int) : Nat := (l.takeWhile okK).length
theorem badAt_le (l : List Int) : badAt l ≤ l.length := (List.takeWhile_sublist _).length_le
theorem badAt_lt {l : List Int} {k : Nat} (h : k < badAt l) (hl : k < l.length) : okK l[k] = true := by
  induction l generalizing k with
  | nil => simp [badAt] at h
  | cons y l ih =>
    unfold badAt at h
    rw [List.takeWhile_cons] at h
    cases hy : okK y
    · rw [hy] at h; simp at h
    · rw [hy] at h
      cases k with
      | zero => exact hy
      | succ k => exact ih (by simpa [badAt] using h) (by simpa using hl)
theorem badAt_eq {l : List Int} (hl : badAt l < l.length) : okK l[badAt l] = false := by
  induction l with
  | nil => simp at hl
  | cons y l ih =>
    cases hy : okK y
    · have : badAt (y :: l) = 0 := by simp [badAt, hy]
      simp only [this, List.getElem_cons_zero, hy]
    · have : badAt (y :: l) = badAt l + 1 := by simp [badAt, hy]
      simp only [this, List.getElem_cons_succ]
      exact ih (by rw [this] at hl; simpa using hl)
theorem badAt_all (l : List Int) : l.all okK = decide (badAt l = l.length) := by
  induction l with
  | nil => rfl
  | cons y l ih =>
    cases hy : okK y <;> simp [badAt, hy] at ih ⊢
    exact ih
def idxV (l : List Int) : Int := if badAt l < l.length then (badAt l : Int) else -1
theorem indexFuncI_c (A : Option Addr) (n c : Nat) (l : List Int) (w : World) (hi : Nat) (hr : Rd w hi 1 A n (iC l)) :
    Calls Try.prog 161 #[.slice A n c, .func (.func 152) #[] #[]] w (Pure (.int .i64 (idxV l)) w) := by
  have hln := hide hr.in_
  have hn := hr.bd
  go_enter Try.func161, Try.ntmps161
  go_wp2_with fail
  go_loop [5, 8] (fun _ i => ∃ k : Nat, k ≤ badAt l ∧ i = .int .i64 k) (fun _ i => n - (intOf i).toNat)
  case atStart => exact ⟨0, by omega, rfl⟩
  case round =>
    obtain ⟨k, hk, rfl⟩ := hrel
    have hle := badAt_le l
    rw [show l.length = n from hln.out] at hle
    by_cases hlt : k < n
    · obtain ⟨b, off, rfl, hblt, hl, hc⟩ := hr.int_ hlt
      by_cases hb : k < badAt l
      · have hok := badAt_lt hb hl
        go_wp2_with (go_at_call 152; refine (isRing1_c _ _).mono ?_; rintro e w' ⟨rfl, rfl⟩)
        go_round
        case rel => exact ⟨k + 1, by omega, by go_num⟩
        case measure => simp [intOf]; omega
      · have hkb : badAt l = k := by omega
        have hok : okK l[k] = false := by
          have := badAt_eq (l := l) (by omega)
          simp only [hkb] at this; exact this
        have HE : Hid (idxV l = k) := by show idxV l = k; rw [idxV, if_pos (by omega), hkb]
        clear hkb
        go_wp2_with (go_at_call 152; refine (isRing1_c _ _).mono ?_; rintro e w' ⟨rfl, rfl⟩)
        go_ret
        exact ⟨ret_int HE.out.symm, rfl⟩
    · have HE : Hid (idxV l = -1) := by have := hln.out; show idxV l = -1; rw [idxV, if_neg (by omega)]
      go_wp2
      go_ret
      exact ⟨ret_int HE.out.symm, rfl⟩
theorem containsFuncI_c (A : Option Addr) (n c : Nat) (l : List Int) (w : World) (hi : Nat) (hr : Rd w hi 1 A n (iC l)) :
    Calls Try.prog 151 #[.slice A n c, .func (.func 152) #[] #[]] w (Pure (.bool (!l.all okK)) w) := by
  have e1 : Hid (l.all okK = decide (badAt l = l.length)) := badAt_all l
  have hle := badAt_le l
  by_cases h : badAt l < l.length
  · have hg : idxV l = badAt l := by rw [idxV, if_pos h]
    have hd : Hid (l.all okK = false) := by show l.all okK = false; rw [e1.out]; simp; omega
    have h0 : 0 ≤ idxV l := by omega
    clear hg
    go_enter Try.func151, Try.ntmps151
    go_wp2_with (go_at_call 161; refine (indexFuncI_c _ _ _ l _ _ hr).mono ?_; rintro e w' ⟨rfl, rfl⟩)
    go_ret
    exact ⟨by rw [hd.out]; rfl, rfl⟩
  · have hg : idxV l = -1 := by rw [idxV, if_neg h]
    have hd : Hid (l.all okK = true) := by show l.all okK = true; rw [e1.out]; simp; omega
    have h0 : decide (0 ≤ idxV l) = false := by simp; omega
    clear hg
    go_enter Try.func151, Try.ntmps151
    go_wp2_with (go_at_call 161; refine (indexFuncI_c _ _ _ l _ _ hr).mono ?_; rintro e w' ⟨rfl, rfl⟩)
    go_ret
    exact ⟨by rw [hd.out]; rfl, rfl⟩
def rgOk (x : Int) (l : List Int) : Bool := inB x 1 1000000 && inB l.length 1 12 && l.all okK
theorem isRing_c (x : Int) (A : Option Addr) (n c : Nat) (l : List Int) (w : World) (hr : Rd w w.heap.size 1 A n (iC l)) :
    Calls Try.prog 130 #[.agg #[.int .i64 x, .slice A n c]] w (RetV (.bool (rgOk x l)) w) := by
  have hn := hr.bd
  have e : Hid (rgOk x l = (inB x 1 1000000 && inB n 1 12 && l.all okK)) := by show rgOk x l = _; rw [rgOk, hr.in_]
  cases h1 : inB x 1 1000000 <;> cases h2 : inB n 1 12 <;> cases h3 : l.all okK
  all_goals
    rw [h1, h2, h3] at e
    go_enter Try.func130, Try.ntmps130
    go_wp2_with (first | (go_at_call 104; refine (within_c _ _ _ _).mono ?_; rintro e w' ⟨rfl, rfl⟩) | (go_at_call 151; refine (containsFuncI_c _ _ _ l _ _ (hr.below (by repeat (first | exact Below.refl _ _ | assumption | refine Below.alloc ?_ (by first | omega | (simp; done) | (simp; omega)) _ | refine Below.setCell ?_ (by first | omega | (simp; done) | (simp; omega)) _ | refine Below.drew ?_ | refine below_drewN ?_ _)) (Nat.le_refl _))).mono ?_; rintro e w' ⟨rfl, rfl⟩))
    go_ret
    exact ⟨by rw [e.out]; rfl, (by repeat (first | exact Below.refl _ _ | assumption | refine Below.alloc ?_ (by first | omega | (simp; done) | (simp; omega)) _ | refine Below.setCell ?_ (by first | omega | (simp; done) | (simp; omega)) _ | refine Below.drew ?_ | refine below_drewN ?_ _))⟩
theorem RingOk_i (x : Int) (A : Option Addr) (n c : Nat) (l : List Int) (w : World) (hr : Rd w w.heap.size 1 A n (iC l)) :
    Calls Try.prog 61 #[.agg #[.int .i64 x, .slice A n c]] w (RetV (.bool (rgOk x l)) w) := by
  go_enter Try.func61, Try.ntmps61
  go_wp2_with fail
  refine (isRing_c x A n c l _ ((hr.below (by repeat (first | exact Below.refl _ _ | assumption | refine Below.alloc ?_ (by first | omega | (simp; done) | (simp; omega)) _ | refine Below.setCell ?_ (by first | omega | (simp; done) | (simp; omega)) _ | refine Below.drew ?_ | refine below_drewN ?_ _)) (Nat.le_refl _)).mono (by first | omega | (simp; done) | (simp; omega)))).mono ?_
  rintro e w1 ⟨rfl, hb1⟩
  have hB : Below w.heap.size w w1 := then_ (by repeat (first | exact Below.refl _ _ | assumption | refine Below.alloc ?_ (by first | omega | (simp; done) | (simp; omega)) _ | refine Below.setCell ?_ (by first | omega | (simp; done) | (simp; omega)) _ | refine Below.drew ?_ | refine below_drewN ?_ _)) hb1 (by first | omega | (simp; done) | (simp; omega))
  go_wp2_with fail
  go_ret
  exact ⟨rfl, hB⟩
theorem RingOk_s (x : Int) (A : Option Addr) (n c : Nat) (l : List Int) (w : World) (hr : Rd w w.heap.size 1 A n (iC l)) :
    Calls Try.prog 59 #[.agg #[.int .i64 x, .slice A n c]] w (RetV (.bool (rgOk x l)) w) := by
  have hn := hr.bd
  have hln := hide hr.in_
  have e : Hid (rgOk x l = (inB x 1 1000000 && inB n 1 12 && l.all okK)) := by show rgOk x l = _; rw [rgOk, hr.in_]
  cases h1 : inB x 1 1000000 <;> cases h2 : inB n 1 12
  case true.true =>
    rw [h1, h2] at e
    go_enter Try.func59, Try.ntmps59
    go_wp2_with (first | (go_at_call 102; refine (l01In_c _ _ _ _).mono ?_; rintro e w' ⟨rfl, rfl⟩))
    go_loop [3] (fun i => ∃ k : Nat, k ≤ badAt l ∧ i = .int .i64 k) (fun i => n - (intOf i).toNat)
    case atStart => exact ⟨0, by omega, rfl⟩
    case round =>
      obtain ⟨k, hk, rfl⟩ := hrel
      have hle := badAt_le l
      rw [show l.length = n from hln.out] at hle
      by_cases hlt : k < n
      · have hr' := hr.below (w' := w.alloc (.cells #[.int .i64 x, .slice A n c] 58)) (by repeat (first | exact Below.refl _ _ | assumption | refine Below.alloc ?_ (by first | omega | (simp; done) | (simp; omega)) _ | refine Below.setCell ?_ (by first | omega | (simp; done) | (simp; omega)) _ | refine Below.drew ?_ | refine below_drewN ?_ _)) (Nat.le_refl _)
        obtain ⟨b, off, rfl, hblt, hl, hc⟩ := hr'.int_ hlt
        clear hr'
        by_cases hb : k < badAt l
        · have hok : inB l[k] 0 1099511627776 = true := badAt_lt hb hl
          go_wp2_with (go_at_call 122; refine (l04Key_c _ _).mono ?_; rintro e w' ⟨rfl, rfl⟩)
          go_round
          case rel => exact ⟨k + 1, by omega, by go_num⟩
          case measure => simp [intOf]; omega
        · have hkb : badAt l = k := by omega
          have hok : inB l[k] 0 1099511627776 = false := by
            have := badAt_eq (l := l) (by omega)
            simp only [hkb] at this; exact this
          have HE : Hid (l.all okK = false) := by have := hln.out; show l.all okK = false; rw [badAt_all]; simp; omega
          clear hkb
          go_wp2_with (go_at_call 122; refine (l04Key_c _ _).mono ?_; rintro e w' ⟨rfl, rfl⟩)
          go_ret
          exact ⟨by rw [e.out, HE.out]; rfl, (by repeat (first | exact Below.refl _ _ | assumption | refine Below.alloc ?_ (by first | omega | (simp; done) | (simp; omega)) _ | refine Below.setCell ?_ (by first | omega | (simp; done) | (simp; omega)) _ | refine Below.drew ?_ | refine below_drewN ?_ _))⟩
      · have HE : Hid (l.all okK = true) := by have := hln.out; show l.all okK = true; rw [badAt_all]; simp; omega
        go_wp2
        go_ret
        exact ⟨by rw [e.out, HE.out]; rfl, (by repeat (first | exact Below.refl _ _ | assumption | refine Below.alloc ?_ (by first | omega | (simp; done) | (simp; omega)) _ | refine Below.setCell ?_ (by first | omega | (simp; done) | (simp; omega)) _ | refine Below.drew ?_ | refine below_drewN ?_ _))⟩
  all_goals
    rw [h1, h2] at e
    go_enter Try.func59, Try.ntmps59
    go_wp2_with (first | (go_at_call 102; refine (l01In_c _ _ _ _).mono ?_; rintro e w' ⟨rfl, rfl⟩))
    go_ret
    exact ⟨by rw [e.out]; rfl, (by repeat (first | exact Below.refl _ _ | assumption | refine Below.alloc ?_ (by first | omega | (simp; done) | (simp; omega)) _ | refine Below.setCell ?_ (by first | omega | (simp; done) | (simp; omega)) _ | refine Below.drew ?_ | refine below_drewN ?_ _))⟩
end Go.Proofs.Ytmebpmaldcogbaa
