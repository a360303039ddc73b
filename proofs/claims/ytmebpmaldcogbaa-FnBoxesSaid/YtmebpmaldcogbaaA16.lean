/- Boxes: sealing and opening: what the program's and the reference's functions give. -/
import Derived.Test.YtmebpmaldcogbaaA15
import Derived.Test.YtmebpmaldcogbaaA6
import Derived.Test.YtmebpmaldcogbaaA13
import Derived.Deep.QuietTactic
import Derived.BigQuiet
namespace Go.Proofs.Ytmebpmaldcogbaa
open Go.RowKit Gf
set_option maxRecDepth 100000
set_option maxHeartbeats 400000
def RetBox (x : Int) (l : List UInt8) (t : Int) (w : World) (en : Ending) (w' : World) : Prop :=
  ∃ A c, en = .returned (.agg #[.int .i64 x, .slice A l.length c, .int .i64 t]) ∧ l.length ≤ c ∧ w'.ownsRow w.heap.size 5 1 (.slice A l.length c) l.length (bC l) ∧ Below w.heap.size w w'
def RetBox2 (x : Int) (l : List UInt8) (t : Int) (ok : Bool) (w : World) (en : Ending) (w' : World) : Prop :=
  ∃ A c, en = .returned (.tuple #[.agg #[.int .i64 x, .slice A l.length c, .int .i64 t], .bool ok]) ∧ l.length ≤ c ∧ w'.ownsRow w.heap.size 5 1 (.slice A l.length c) l.length (bC l) ∧ Below w.heap.size w w'
def RetRow2 (l : List UInt8) (ok : Bool) (w : World) (en : Ending) (w' : World) : Prop :=
  ∃ A c, en = .returned (.tuple #[.slice A l.length c, .bool ok]) ∧ l.length ≤ c ∧ w'.ownsRow w.heap.size 5 1 (.slice A l.length c) l.length (bC l) ∧ Below w.heap.size w w'
theorem sealBox_c (key nonce : Int) (A : Option Addr) (n c : Nat) (l : List UInt8) (w : World) (h0 : 0 ≤ key) (h1 : key ≤ 1099511627776) (h2 : 0 ≤ nonce) (h3 : nonce ≤ 1099511627776) (hn : n ≤ 2000) (hr : Rd w w.heap.size 1 A n (bC l)) :
    Calls Try.prog 140 #[.int .i64 key, .int .i64 nonce, .slice A n c] w (RetBox nonce (xB key nonce l) (tagB key nonce (xB key nonce l)) w) := by
  have hln := hr.bn
  subst hln
  have hxl := hide (xB_length key nonce l)
  go_enter Try.func140, Try.ntmps140
  go_wp2_with fail
  have M := Blk.new w 82 #[.int .i64 0, .slice none 0 0, .int .i64 0]
  refine (crossed_c key nonce A _ c l _ h0 h1 h2 h3 hn (hr.up (by repeat (first | with_reducible exact Below.refl _ _ | with_reducible assumption | refine Below.alloc ?_ (by first | omega | (simp; done) | (simp; omega)) _ | refine Below.setCell ?_ (by first | omega | (simp; done) | (simp; omega)) _ | refine Below.drew ?_ | refine below_drewN ?_ _ | exact Below.refl _ _ | assumption)))).mono ?_
  rintro e w1 ⟨A1, c1, rfl, hc1, ho1, hb1⟩
  have hB : Below w.heap.size w w1 := then_ (by repeat (first | with_reducible exact Below.refl _ _ | with_reducible assumption | refine Below.alloc ?_ (by first | omega | (simp; done) | (simp; omega)) _ | refine Below.setCell ?_ (by first | omega | (simp; done) | (simp; omega)) _ | refine Below.drew ?_ | refine below_drewN ?_ _ | exact Below.refl _ _ | assumption)) hb1 (by first | omega | (simp; done) | (simp; omega))
  have hz1 : w.heap.size + 1 ≤ w1.heap.size := by have := hb1.size; simp at this; omega
  obtain ⟨M, qM, fM, _⟩ := M.step hb1
  replace ho1 := own_mono (base' := w.heap.size + 1) ho1 (by simp)
  have hxn := hxl.out
  go_wp2_with fail
  refine (tagOf_c key nonce A1 _ c1 (xB key nonce l) _ h0 h1 h2 h3 (own_rd ho1) (by omega)).mono ?_
  rintro e w2 ⟨rfl, hb2⟩
  replace hB := then_ hB hb2 hB.size
  have hz2 : w1.heap.size ≤ w2.heap.size := hb2.size
  obtain ⟨M, qM, fM, _⟩ := M.step hb2
  replace ho1 := own_keep ho1 (fun a ha => hb2.block a.block (by subst ha; exact own_lt ho1))
  clear hb1 hb2
  go_wp2_with fail
  refine bodyPost_ret (v := .agg #[.int .i64 nonce, .slice A1 l.length c1, .int .i64 (tagB key nonce (xB key nonce l))]) (by simp [results, Try.results140, go_sem, qM]) rfl ?_
  refine ⟨_, _, by rw [hxn], by rw [hxn]; exact hc1, ?_, (by repeat (first | with_reducible exact Below.refl _ _ | with_reducible assumption | refine Below.alloc ?_ (by first | omega | (simp; done) | (simp; omega)) _ | refine Below.setCell ?_ (by first | omega | (simp; done) | (simp; omega)) _ | refine Below.drew ?_ | refine below_drewN ?_ _ | exact Below.refl _ _ | assumption))⟩
  rw [hxn]
  exact own_mono (base := w.heap.size + 1) (by repeat (first | with_reducible assumption | with_reducible refine ownsRow_setCell_below ?_ (by first | omega | (simp; done) | (simp; omega)) _ | with_reducible refine World.ownsRow.alloc ?_ _ | exact own_mono (by assumption) (by first | omega | (simp; done) | (simp; omega)) | assumption | refine ownsRow_setCell_below ?_ (by first | omega | (simp; done) | (simp; omega)) _ | refine World.ownsRow.alloc ?_ _)) (by omega)
def sbX (key nonce : Int) (l : List UInt8) : Int := if tagOk key nonce l.length then nonce else 0
def sbL (key nonce : Int) (l : List UInt8) : List UInt8 := if tagOk key nonce l.length then xB key nonce l else []
def sbT (key nonce : Int) (l : List UInt8) : Int := if tagOk key nonce l.length then tagB key nonce (xB key nonce l) else 0
theorem sb_no {k n : Int} {l : List UInt8} (h : tagOk k n l.length = false) : sbX k n l = 0 ∧ sbL k n l = [] ∧ sbT k n l = 0 := by
  unfold sbX sbL sbT; rw [h]; exact ⟨rfl, rfl, rfl⟩
theorem sb_yes {k n : Int} {l : List UInt8} (h : tagOk k n l.length = true) : sbX k n l = n ∧ sbL k n l = xB k n l ∧ sbT k n l = tagB k n (xB k n l) := by
  unfold sbX sbL sbT; rw [h]; exact ⟨rfl, rfl, rfl⟩
theorem tag_cases {k n : Int} {m : Nat} (h : tagOk k n m = false) : inB k 0 1099511627776 = false ∨ (inB k 0 1099511627776 = true ∧ inB n 0 1099511627776 = false) ∨ (inB k 0 1099511627776 = true ∧ inB n 0 1099511627776 = true ∧ 2000 < m) := by
  unfold tagOk at h
  cases h1 : inB k 0 1099511627776 <;> cases h2 : inB n 0 1099511627776 <;> simp_all
theorem tag_true {k n : Int} {m : Nat} (h : tagOk k n m = true) : inB k 0 1099511627776 = true ∧ inB n 0 1099511627776 = true ∧ m ≤ 2000 := by
  unfold tagOk at h
  rw [Bool.and_eq_true, Bool.and_eq_true] at h
  exact ⟨h.1.1, h.1.2, of_decide_eq_true h.2⟩
theorem SealBox_i (key nonce : Int) (A : Option Addr) (n c : Nat) (l : List UInt8) (w : World) (hr : Rd w w.heap.size 1 A n (bC l)) :
    Calls Try.prog 80 #[.int .i64 key, .int .i64 nonce, .slice A n c] w (RetBox2 (sbX key nonce l) (sbL key nonce l) (sbT key nonce l) (tagOk key nonce l.length) w) := by
  have hln := hr.bn
  have hbd := hr.bd
  subst hln
  cases hok : tagOk key nonce l.length
  · obtain ⟨e1, e2, e3⟩ := sb_no hok
    rw [e1, e2, e3]
    clear e1 e2 e3
    have hcs := tag_cases hok
    clear hok
    rcases hcs with h1 | ⟨h1, h2⟩ | ⟨h1, h2, h3⟩
    all_goals
      go_enter Try.func80, Try.ntmps80
      go_wp2_with (go_at_call 123; refine (isKey_c _ _).mono ?_; rintro e w' ⟨rfl, rfl⟩)
      refine bodyPost_ret (v := .tuple #[.agg #[.int .i64 0, .slice none 0 0, .int .i64 0], .bool false]) (by simp [results, Try.results80, go_sem]) rfl ?_
      exact ⟨_, _, rfl, Nat.le_refl _, World.ownsRow_nil _ _ _ _, (by repeat (first | with_reducible exact Below.refl _ _ | with_reducible assumption | refine Below.alloc ?_ (by first | omega | (simp; done) | (simp; omega)) _ | refine Below.setCell ?_ (by first | omega | (simp; done) | (simp; omega)) _ | refine Below.drew ?_ | refine below_drewN ?_ _ | exact Below.refl _ _ | assumption))⟩
  · obtain ⟨e1, e2, e3⟩ := sb_yes hok
    rw [e1, e2, e3]
    clear e1 e2 e3
    obtain ⟨h1, h2, h3⟩ := tag_true hok
    clear hok
    obtain ⟨b1, b2⟩ := inB_true.1 h1
    obtain ⟨b3, b4⟩ := inB_true.1 h2
    have hxl := hide (xB_length key nonce l)
    go_enter Try.func80, Try.ntmps80
    go_wp2_with (go_at_call 123; refine (isKey_c _ _).mono ?_; rintro e w' ⟨rfl, rfl⟩)
    have M := Blk.new w 82 #[.int .i64 0, .slice none 0 0, .int .i64 0]
    refine (sealBox_c key nonce A _ c l _ b1 b2 b3 b4 h3 (hr.up (by repeat (first | with_reducible exact Below.refl _ _ | with_reducible assumption | refine Below.alloc ?_ (by first | omega | (simp; done) | (simp; omega)) _ | refine Below.setCell ?_ (by first | omega | (simp; done) | (simp; omega)) _ | refine Below.drew ?_ | refine below_drewN ?_ _ | exact Below.refl _ _ | assumption)))).mono ?_
    rintro e w1 ⟨A1, c1, rfl, hc1, ho1, hb1⟩
    have hB : Below w.heap.size w w1 := then_ (by repeat (first | with_reducible exact Below.refl _ _ | with_reducible assumption | refine Below.alloc ?_ (by first | omega | (simp; done) | (simp; omega)) _ | refine Below.setCell ?_ (by first | omega | (simp; done) | (simp; omega)) _ | refine Below.drew ?_ | refine below_drewN ?_ _ | exact Below.refl _ _ | assumption)) hb1 (by first | omega | (simp; done) | (simp; omega))
    have hz1 : w.heap.size + 1 ≤ w1.heap.size := by have := hb1.size; simp at this; omega
    obtain ⟨M, qM, fM, _⟩ := M.step hb1
    replace ho1 := own_mono (base' := w.heap.size + 1) ho1 (by simp)
    clear hb1
    go_wp2_with fail
    refine bodyPost_ret (v := .tuple #[.agg #[.int .i64 nonce, .slice A1 (xB key nonce l).length c1, .int .i64 (tagB key nonce (xB key nonce l))], .bool true]) (by simp [results, Try.results80, go_sem, qM]) rfl ?_
    refine ⟨_, _, rfl, hc1, ?_, (by repeat (first | with_reducible exact Below.refl _ _ | with_reducible assumption | refine Below.alloc ?_ (by first | omega | (simp; done) | (simp; omega)) _ | refine Below.setCell ?_ (by first | omega | (simp; done) | (simp; omega)) _ | refine Below.drew ?_ | refine below_drewN ?_ _ | exact Below.refl _ _ | assumption))⟩
    exact own_mono (base := w.heap.size + 1) (by repeat (first | with_reducible assumption | with_reducible refine ownsRow_setCell_below ?_ (by first | omega | (simp; done) | (simp; omega)) _ | with_reducible refine World.ownsRow.alloc ?_ _ | exact own_mono (by assumption) (by first | omega | (simp; done) | (simp; omega)) | assumption | refine ownsRow_setCell_below ?_ (by first | omega | (simp; done) | (simp; omega)) _ | refine World.ownsRow.alloc ?_ _)) (by omega)
theorem SealBox_s (key nonce : Int) (A : Option Addr) (n c : Nat) (l : List UInt8) (w : World) (hr : Rd w w.heap.size 1 A n (bC l)) :
    Calls Try.prog 79 #[.int .i64 key, .int .i64 nonce, .slice A n c] w (RetBox2 (sbX key nonce l) (sbL key nonce l) (sbT key nonce l) (tagOk key nonce l.length) w) := by
  have hln := hr.bn
  have hbd := hr.bd
  subst hln
  cases hok : tagOk key nonce l.length
  · obtain ⟨e1, e2, e3⟩ := sb_no hok
    rw [e1, e2, e3]
    clear e1 e2 e3
    have hcs := tag_cases hok
    clear hok
    rcases hcs with h1 | ⟨h1, h2⟩ | ⟨h1, h2, h3⟩
    all_goals
      go_enter Try.func79, Try.ntmps79
      go_wp2_with (go_at_call 122; refine (l04Key_c _ _).mono ?_; rintro e w' ⟨rfl, rfl⟩)
      refine bodyPost_ret (v := .tuple #[.agg #[.int .i64 0, .slice none 0 0, .int .i64 0], .bool false]) (by simp [results, Try.results79, go_sem]) rfl ?_
      exact ⟨_, _, rfl, Nat.le_refl _, World.ownsRow_nil _ _ _ _, (by repeat (first | with_reducible exact Below.refl _ _ | with_reducible assumption | refine Below.alloc ?_ (by first | omega | (simp; done) | (simp; omega)) _ | refine Below.setCell ?_ (by first | omega | (simp; done) | (simp; omega)) _ | refine Below.drew ?_ | refine below_drewN ?_ _ | exact Below.refl _ _ | assumption))⟩
  · obtain ⟨e1, e2, e3⟩ := sb_yes hok
    rw [e1, e2, e3]
    clear e1 e2 e3
    obtain ⟨h1, h2, h3⟩ := tag_true hok
    obtain ⟨b1, b2⟩ := inB_true.1 h1
    obtain ⟨b3, b4⟩ := inB_true.1 h2
    have hxl := hide (xB_length key nonce l)
    have htg : Hid (tag_ key nonce (xB key nonce l) = tagB key nonce (xB key nonce l)) := by
      show tag_ key nonce (xB key nonce l) = _
      unfold tag_
      rw [xB_length, hok]; rfl
    clear hok
    go_enter Try.func79, Try.ntmps79
    go_wp2_with (go_at_call 122; refine (l04Key_c _ _).mono ?_; rintro e w' ⟨rfl, rfl⟩)
    have M := Blk.new w 82 #[.int .i64 0, .slice none 0 0, .int .i64 0]
    refine (l04Mask_c key nonce A _ c l _ b1 b2 b3 b4 h3 (hr.up (by repeat (first | with_reducible exact Below.refl _ _ | with_reducible assumption | refine Below.alloc ?_ (by first | omega | (simp; done) | (simp; omega)) _ | refine Below.setCell ?_ (by first | omega | (simp; done) | (simp; omega)) _ | refine Below.drew ?_ | refine below_drewN ?_ _ | exact Below.refl _ _ | assumption)))).mono ?_
    rintro e w1 ⟨A1, c1, rfl, hc1, ho1, hb1⟩
    have hB : Below w.heap.size w w1 := then_ (by repeat (first | with_reducible exact Below.refl _ _ | with_reducible assumption | refine Below.alloc ?_ (by first | omega | (simp; done) | (simp; omega)) _ | refine Below.setCell ?_ (by first | omega | (simp; done) | (simp; omega)) _ | refine Below.drew ?_ | refine below_drewN ?_ _ | exact Below.refl _ _ | assumption)) hb1 (by first | omega | (simp; done) | (simp; omega))
    have hz1 : w.heap.size + 1 ≤ w1.heap.size := by have := hb1.size; simp at this; omega
    obtain ⟨M, qM, fM, _⟩ := M.step hb1
    replace ho1 := own_mono (base' := w.heap.size + 1) ho1 (by simp)
    have hxn := hxl.out
    clear hb1
    go_wp2_with fail
    refine (TagOf_s key nonce A1 _ c1 (xB key nonce l) _ (own_rd ho1)).mono ?_
    rintro e w2 ⟨rfl, hb2⟩
    rw [htg.out]
    replace hB := then_ hB hb2 hB.size
    have hz2 : w1.heap.size ≤ w2.heap.size := hb2.size
    obtain ⟨M, qM, fM, _⟩ := M.step hb2
    replace ho1 := own_keep ho1 (fun a ha => hb2.block a.block (by subst ha; exact own_lt ho1))
    clear hb2
    go_wp2_with fail
    refine bodyPost_ret (v := .tuple #[.agg #[.int .i64 nonce, .slice A1 l.length c1, .int .i64 (tagB key nonce (xB key nonce l))], .bool true]) (by simp [results, Try.results79, go_sem, qM]) rfl ?_
    refine ⟨_, _, by rw [hxn], by rw [hxn]; exact hc1, ?_, (by repeat (first | with_reducible exact Below.refl _ _ | with_reducible assumption | refine Below.alloc ?_ (by first | omega | (simp; done) | (simp; omega)) _ | refine Below.setCell ?_ (by first | omega | (simp; done) | (simp; omega)) _ | refine Below.drew ?_ | refine below_drewN ?_ _ | exact Below.refl _ _ | assumption))⟩
    rw [hxn]
    exact own_mono (base := w.heap.size + 1) (by repeat (first | with_reducible assumption | with_reducible refine ownsRow_setCell_below ?_ (by first | omega | (simp; done) | (simp; omega)) _ | with_reducible refine World.ownsRow.alloc ?_ _ | exact own_mono (by assumption) (by first | omega | (simp; done) | (simp; omega)) | assumption | refine ownsRow_setCell_below ?_ (by first | omega | (simp; done) | (simp; omega)) _ | refine World.ownsRow.alloc ?_ _)) (by omega)
end Go.Proofs.Ytmebpmaldcogbaa
