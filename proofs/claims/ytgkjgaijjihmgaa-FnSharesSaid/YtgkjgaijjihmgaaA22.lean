/- Seals: validity, sizes, copies, equality. -/
import Derived.Test.YtgkjgaijjihmgaaA21
import Derived.Test.YtgkjgaijjihmgaaA20
import Derived.Test.YtgkjgaijjihmgaaAOpen
namespace Go.Proofs.Ytgkjgaijjihmgaa
open Go.RowKit Gf
set_option maxRecDepth 100000
set_option maxHeartbeats 400000
def slOk (need : Int) (ss : List Sh) : Bool := inB need 1 12 && decide ((ss.length : Int) < need) && alikeB ss
theorem isSeal_c (need sum : Int) (A : Option Addr) (n c : Nat) (ss : List Sh) (w : World) (hr : ShR w w.heap.size A n ss) (hnc : n ≤ c) :
    Calls Try.prog 52 #[.agg #[.int .i64 need, .int .i64 sum, .slice A n c]] w (RetV (.bool (slOk need ss)) w) := by
  have hln := hr.1
  subst hln
  have hbd := hr.bd
  have e : Hid (slOk need ss = (inB need 1 12 && decide ((ss.length : Int) < need) && alikeB ss)) := rfl
  have HA := hide (areAlike_c A ss.length c ss)
  cases h1 : inB need 1 12
  · rw [h1] at e
    go_enter Try.func52, Try.ntmps52
    go_wp2_with (go_at_call 41; refine (within_c _ _ _ _).mono ?_; rintro e w' ⟨rfl, rfl⟩)
    go_ret
    exact ⟨by rw [e.out]; rfl, (by repeat (first | with_reducible exact Below.refl _ _ | with_reducible assumption | refine Below.alloc ?_ (by first | omega | (simp; done) | (simp; omega)) _ | refine Below.setCell ?_ (by first | omega | (simp; done) | (simp; omega)) _ | refine Below.drew ?_ | refine below_drewN ?_ _ | exact Below.refl _ _ | assumption))⟩
  · cases h2 : decide ((ss.length : Int) < need)
    · rw [h1, h2] at e
      go_enter Try.func52, Try.ntmps52
      go_wp2_with (go_at_call 41; refine (within_c _ _ _ _).mono ?_; rintro e w' ⟨rfl, rfl⟩)
      go_ret
      exact ⟨by rw [e.out]; rfl, (by repeat (first | with_reducible exact Below.refl _ _ | with_reducible assumption | refine Below.alloc ?_ (by first | omega | (simp; done) | (simp; omega)) _ | refine Below.setCell ?_ (by first | omega | (simp; done) | (simp; omega)) _ | refine Below.drew ?_ | refine below_drewN ?_ _ | exact Below.refl _ _ | assumption))⟩
    · rw [h1, h2] at e
      go_enter Try.func52, Try.ntmps52
      go_wp2_with (go_at_call 41; refine (within_c _ _ _ _).mono ?_; rintro e w' ⟨rfl, rfl⟩)
      refine (HA.out _ (hr.up (by repeat (first | with_reducible exact Below.refl _ _ | with_reducible assumption | refine Below.alloc ?_ (by first | omega | (simp; done) | (simp; omega)) _ | refine Below.setCell ?_ (by first | omega | (simp; done) | (simp; omega)) _ | refine Below.drew ?_ | refine below_drewN ?_ _ | exact Below.refl _ _ | assumption))) hnc).mono ?_
      rintro e1 w1 ⟨rfl, hb1⟩
      have hB : Below w.heap.size w w1 := then_ (by repeat (first | with_reducible exact Below.refl _ _ | with_reducible assumption | refine Below.alloc ?_ (by first | omega | (simp; done) | (simp; omega)) _ | refine Below.setCell ?_ (by first | omega | (simp; done) | (simp; omega)) _ | refine Below.drew ?_ | refine below_drewN ?_ _ | exact Below.refl _ _ | assumption)) hb1 (by first | omega | (simp; done) | (simp; omega))
      go_wp2_with fail
      go_ret
      exact ⟨by rw [e.out]; rfl, hB⟩
theorem SealOk_s (need sum : Int) (A : Option Addr) (n c : Nat) (ss : List Sh) (w : World) (hr : ShR w w.heap.size A n ss) :
    Calls Try.prog 59 #[.agg #[.int .i64 need, .int .i64 sum, .slice A n c]] w (RetV (.bool (slOk need ss)) w) := by
  have hln := hr.1
  subst hln
  have hbd := hr.bd
  have e : Hid (slOk need ss = (inB need 1 12 && decide ((ss.length : Int) < need) && alikeB ss)) := rfl
  have HA := hide (l03Shares_c A ss.length c ss)
  cases h1 : inB need 1 12
  · rw [h1] at e
    go_enter Try.func59, Try.ntmps59
    go_wp2_with (go_at_call 38; refine (l01In_c _ _ _ _).mono ?_; rintro e w' ⟨rfl, rfl⟩)
    go_ret
    exact ⟨by rw [e.out]; rfl, (by repeat (first | with_reducible exact Below.refl _ _ | with_reducible assumption | refine Below.alloc ?_ (by first | omega | (simp; done) | (simp; omega)) _ | refine Below.setCell ?_ (by first | omega | (simp; done) | (simp; omega)) _ | refine Below.drew ?_ | refine below_drewN ?_ _ | exact Below.refl _ _ | assumption))⟩
  · cases h2 : decide ((ss.length : Int) < need)
    · rw [h1, h2] at e
      go_enter Try.func59, Try.ntmps59
      go_wp2_with (go_at_call 38; refine (l01In_c _ _ _ _).mono ?_; rintro e w' ⟨rfl, rfl⟩)
      go_ret
      exact ⟨by rw [e.out]; rfl, (by repeat (first | with_reducible exact Below.refl _ _ | with_reducible assumption | refine Below.alloc ?_ (by first | omega | (simp; done) | (simp; omega)) _ | refine Below.setCell ?_ (by first | omega | (simp; done) | (simp; omega)) _ | refine Below.drew ?_ | refine below_drewN ?_ _ | exact Below.refl _ _ | assumption))⟩
    · have h12 : decide (ss.length ≤ 12) = true := by
        have := (inB_true.1 h1).2
        have := of_decide_eq_true h2
        exact decide_eq_true (by omega)
      rw [h12, Bool.true_and] at HA
      rw [h1, h2] at e
      clear h12
      go_enter Try.func59, Try.ntmps59
      go_wp2_with (go_at_call 38; refine (l01In_c _ _ _ _).mono ?_; rintro e w' ⟨rfl, rfl⟩)
      refine (HA.out _ (hr.up (by repeat (first | with_reducible exact Below.refl _ _ | with_reducible assumption | refine Below.alloc ?_ (by first | omega | (simp; done) | (simp; omega)) _ | refine Below.setCell ?_ (by first | omega | (simp; done) | (simp; omega)) _ | refine Below.drew ?_ | refine below_drewN ?_ _ | exact Below.refl _ _ | assumption)))).mono ?_
      rintro e1 w1 ⟨rfl, hb1⟩
      have hB : Below w.heap.size w w1 := then_ (by repeat (first | with_reducible exact Below.refl _ _ | with_reducible assumption | refine Below.alloc ?_ (by first | omega | (simp; done) | (simp; omega)) _ | refine Below.setCell ?_ (by first | omega | (simp; done) | (simp; omega)) _ | refine Below.drew ?_ | refine below_drewN ?_ _ | exact Below.refl _ _ | assumption)) hb1 (by first | omega | (simp; done) | (simp; omega))
      go_wp2_with fail
      go_ret
      exact ⟨by rw [e.out]; rfl, hB⟩
theorem szSeal_ok (need sum : Int) (A : Option Addr) (n c : Nat) (ss : List Sh) (left : Int) (w : World) (hr : ShR w w.heap.size A n ss) (h0 : (cntS ss : Int) ≤ left) (h1 : left ≤ 1099511627776) :
    Calls Try.prog 18 #[.agg #[.int .i64 need, .int .i64 sum, .slice A n c], .int .i64 left] w (RetV (.int .i64 (left - cntS ss)) w) := by
  go_enter Try.func18, Try.ntmps18
  go_wp2_with fail
  refine (szShareS_ok A n c ss _ left (hr.up (by repeat (first | with_reducible exact Below.refl _ _ | with_reducible assumption | refine Below.alloc ?_ (by first | omega | (simp; done) | (simp; omega)) _ | refine Below.setCell ?_ (by first | omega | (simp; done) | (simp; omega)) _ | refine Below.drew ?_ | refine below_drewN ?_ _ | exact Below.refl _ _ | assumption))) h0 h1).mono ?_
  rintro e1 w1 ⟨rfl, hb1⟩
  have hB : Below w.heap.size w w1 := then_ (by repeat (first | with_reducible exact Below.refl _ _ | with_reducible assumption | refine Below.alloc ?_ (by first | omega | (simp; done) | (simp; omega)) _ | refine Below.setCell ?_ (by first | omega | (simp; done) | (simp; omega)) _ | refine Below.drew ?_ | refine below_drewN ?_ _ | exact Below.refl _ _ | assumption)) hb1 (by first | omega | (simp; done) | (simp; omega))
  go_wp2_with fail
  go_ret
  exact ⟨rfl, hB⟩
theorem szSeal_no (need sum : Int) (A : Option Addr) (n c : Nat) (ss : List Sh) (left : Int) (w : World) (hr : ShR w w.heap.size A n ss) (h0 : left < (cntS ss : Int)) (h2 : 0 ≤ left) (h1 : left ≤ 1099511627776) :
    Calls Try.prog 18 #[.agg #[.int .i64 need, .int .i64 sum, .slice A n c], .int .i64 left] w (RetV (.int .i64 (-1)) w) := by
  go_enter Try.func18, Try.ntmps18
  go_wp2_with fail
  refine (szShareS_no A n c ss _ left (hr.up (by repeat (first | with_reducible exact Below.refl _ _ | with_reducible assumption | refine Below.alloc ?_ (by first | omega | (simp; done) | (simp; omega)) _ | refine Below.setCell ?_ (by first | omega | (simp; done) | (simp; omega)) _ | refine Below.drew ?_ | refine below_drewN ?_ _ | exact Below.refl _ _ | assumption))) h0 h2 h1).mono ?_
  rintro e1 w1 ⟨rfl, hb1⟩
  have hB : Below w.heap.size w w1 := then_ (by repeat (first | with_reducible exact Below.refl _ _ | with_reducible assumption | refine Below.alloc ?_ (by first | omega | (simp; done) | (simp; omega)) _ | refine Below.setCell ?_ (by first | omega | (simp; done) | (simp; omega)) _ | refine Below.drew ?_ | refine below_drewN ?_ _ | exact Below.refl _ _ | assumption)) hb1 (by first | omega | (simp; done) | (simp; omega))
  go_wp2_with fail
  go_ret
  exact ⟨rfl, hB⟩
/-- a seal in new memory -/
def RetSeal (need sum : Int) (ss : List Sh) (w : World) (en : Ending) (w' : World) : Prop :=
  ∃ A c hs, en = .returned (.agg #[.int .i64 need, .int .i64 sum, .slice A ss.length c]) ∧ ss.length ≤ c ∧ ShO w' w.heap.size 31 A ss.length c hs ss ∧ Below w.heap.size w w'
theorem ShO.far {w : World} {lo e n c : Nat} {A : Option Addr} {hs : List (Option Addr × Nat)} {ss : List Sh} (h : ShO w lo e A n c hs ss) {p : Addr} (hp : p.block < lo) (u : Value) : ShO (w.setCell p u) lo e A n c hs ss := by
  have key : ∀ {size m cc : Nat} {D : Option Addr} {xs : List Value} {t : Nat}, w.ownsRow lo t size (.slice D m cc) m xs → (w.setCell p u).ownsRow lo t size (.slice D m cc) m xs := by
    intro size m cc D xs t hx
    refine own_keep hx fun a ha => ?_
    subst ha
    obtain ⟨_, _, hlo⟩ := own_type hx
    exact Below.heap_setCell _ _ _ _ (by omega)
  exact ⟨h.len, key h.row, fun k hk => key (h.data k hk), h.apart⟩
theorem toSeal_c (need sum : Int) (A : Option Addr) (n c : Nat) (ss : List Sh) (w : World) (hr : ShR w w.heap.size A n ss) (hn : n ≤ 1048576) (hd : ∀ k (h : k < ss.length), ss[k].2.length ≤ 1048576) :
    Calls Try.prog 21 #[.agg #[.int .i64 need, .int .i64 sum, .slice A n c]] w (RetSeal need sum ss w) := by
  have hln := hr.1
  subst hln
  have HC := hide (toShareS_c A ss.length c ss)
  have HD := hide hd
  clear hd
  go_enter Try.func21, Try.ntmps21
  go_wp2_with fail
  have M := (Blk.new1 w (.cells #[.int .i64 need, .int .i64 sum, .slice A ss.length c] 44) 39 #[.int .i64 0, .int .i64 0, .slice none 0 0]).alloc (.cells #[.int .i64 need, .int .i64 sum, .slice none 0 0] 39)
  have N := Blk.new2 w (.cells #[.int .i64 need, .int .i64 sum, .slice A ss.length c] 44) (.cells #[.int .i64 0, .int .i64 0, .slice none 0 0] 39) 39 #[.int .i64 need, .int .i64 sum, .slice none 0 0]
  refine (HC.out _ (hr.up (by repeat (first | with_reducible exact Below.refl _ _ | with_reducible assumption | refine Below.alloc ?_ (by first | omega | (simp; done) | (simp; omega)) _ | refine Below.setCell ?_ (by first | omega | (simp; done) | (simp; omega)) _ | refine Below.drew ?_ | refine below_drewN ?_ _ | exact Below.refl _ _ | assumption))) hn HD.out).mono ?_
  rintro e w1 ⟨A1, c1, hs, rfl, hc1, ho1, hb1⟩
  have hz : w.heap.size + 1 + 1 + 1 ≤ w1.heap.size := by have := hb1.size; simp at this; omega
  have hB : Below w.heap.size w w1 := then_ (by repeat (first | with_reducible exact Below.refl _ _ | with_reducible assumption | refine Below.alloc ?_ (by first | omega | (simp; done) | (simp; omega)) _ | refine Below.setCell ?_ (by first | omega | (simp; done) | (simp; omega)) _ | refine Below.drew ?_ | refine below_drewN ?_ _ | exact Below.refl _ _ | assumption)) hb1 (by first | omega | (simp; done) | (simp; omega))
  have HO := hide (ho1.mono (lo' := w.heap.size + 1 + 1 + 1) (by first | omega | (simp; done) | (simp; omega)))
  obtain ⟨M, qM, fM, _⟩ := M.step hb1
  obtain ⟨N, qN, fN, _⟩ := N.step hb1
  clear hb1 ho1
  go_wp2_with fail
  refine bodyPost_ret (v := .agg #[.int .i64 need, .int .i64 sum, .slice A1 ss.length c1]) (by simp [results, Try.results21, go_sem, qM]) rfl ?_
  refine ⟨_, _, hs, rfl, hc1, ?_, (by repeat (first | with_reducible exact Below.refl _ _ | with_reducible assumption | refine Below.alloc ?_ (by first | omega | (simp; done) | (simp; omega)) _ | refine Below.setCell ?_ (by first | omega | (simp; done) | (simp; omega)) _ | refine Below.drew ?_ | refine below_drewN ?_ _ | exact Below.refl _ _ | assumption))⟩
  exact ShO.mono (lo := w.heap.size + 1 + 1 + 1) (by repeat (first | exact HO.out | refine ShO.far ?_ (by first | omega | (simp; done) | (simp; omega)) _)) (by omega)
theorem eqSeal_c (need sum : Int) (A A' : Option Addr) (n c c' : Nat) (ss : List Sh) (w : World) (hr : ShR w w.heap.size A n ss) (hr' : ShR w w.heap.size A' n ss) :
    Calls Try.prog 23 #[.agg #[.int .i64 need, .int .i64 sum, .slice A n c], .agg #[.int .i64 need, .int .i64 sum, .slice A' n c']] w (RetV (.bool true) w) := by
  go_enter Try.func23, Try.ntmps23
  go_wp2_with fail
  refine (eqShareS_c A A' n c c' ss _ (hr.up (by repeat (first | with_reducible exact Below.refl _ _ | with_reducible assumption | refine Below.alloc ?_ (by first | omega | (simp; done) | (simp; omega)) _ | refine Below.setCell ?_ (by first | omega | (simp; done) | (simp; omega)) _ | refine Below.drew ?_ | refine below_drewN ?_ _ | exact Below.refl _ _ | assumption))) (hr'.up (by repeat (first | with_reducible exact Below.refl _ _ | with_reducible assumption | refine Below.alloc ?_ (by first | omega | (simp; done) | (simp; omega)) _ | refine Below.setCell ?_ (by first | omega | (simp; done) | (simp; omega)) _ | refine Below.drew ?_ | refine below_drewN ?_ _ | exact Below.refl _ _ | assumption)))).mono ?_
  rintro e w1 ⟨rfl, hb1⟩
  have hB : Below w.heap.size w w1 := then_ (by repeat (first | with_reducible exact Below.refl _ _ | with_reducible assumption | refine Below.alloc ?_ (by first | omega | (simp; done) | (simp; omega)) _ | refine Below.setCell ?_ (by first | omega | (simp; done) | (simp; omega)) _ | refine Below.drew ?_ | refine below_drewN ?_ _ | exact Below.refl _ _ | assumption)) hb1 (by first | omega | (simp; done) | (simp; omega))
  go_wp2_with fail
  go_ret
  exact ⟨rfl, hB⟩
end Go.Proofs.Ytgkjgaijjihmgaa
