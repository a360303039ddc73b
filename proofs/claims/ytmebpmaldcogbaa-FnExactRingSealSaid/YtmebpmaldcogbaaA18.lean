/- Ciphers: what the program's and the reference's functions that seal with a ring give; equality and marks. -/
import Derived.Test.YtmebpmaldcogbaaA17
import Derived.Test.YtmebpmaldcogbaaA12
namespace Go.Proofs.Ytmebpmaldcogbaa
open Go.RowKit Gf
set_option maxRecDepth 100000
set_option maxHeartbeats 400000
def lk (l : List Int) : Int := (l[l.length - 1]?).getD 0
theorem lk_eq {l : List Int} {m : Nat} (h : l.length = m + 1) : lk l = l[m]'(by omega) := by
  unfold lk
  rw [show l.length - 1 = m from by omega, List.getElem?_eq_getElem (by omega)]
  rfl
def rsOk (x : Int) (l : List Int) (nonce : Int) (p : List UInt8) : Bool := rgOk x l && tagOk (lk l) nonce p.length
def rsV (x : Int) (l : List Int) (nonce : Int) (p : List UInt8) : Int := if rsOk x l nonce p then x + (l.length - 1 : Nat) else 0
def rsX (x : Int) (l : List Int) (nonce : Int) (p : List UInt8) : Int := if rsOk x l nonce p then nonce else 0
def rsL (x : Int) (l : List Int) (nonce : Int) (p : List UInt8) : List UInt8 := if rsOk x l nonce p then xB (lk l) nonce p else []
def rsT (x : Int) (l : List Int) (nonce : Int) (p : List UInt8) : Int := if rsOk x l nonce p then tagB (lk l) nonce (xB (lk l) nonce p) else 0
theorem rs_no {x n : Int} {l : List Int} {p : List UInt8} (h : rsOk x l n p = false) : rsV x l n p = 0 ∧ rsX x l n p = 0 ∧ rsL x l n p = [] ∧ rsT x l n p = 0 := by
  unfold rsV rsX rsL rsT; rw [h]; exact ⟨rfl, rfl, rfl, rfl⟩
theorem rs_yes {x n : Int} {l : List Int} {p : List UInt8} (h : rsOk x l n p = true) : rsV x l n p = x + (l.length - 1 : Nat) ∧ rsX x l n p = n ∧ rsL x l n p = xB (lk l) n p ∧ rsT x l n p = tagB (lk l) n (xB (lk l) n p) := by
  unfold rsV rsX rsL rsT; rw [h]; exact ⟨rfl, rfl, rfl, rfl⟩
theorem rg_key {x : Int} {l : List Int} (h : rgOk x l = true) {m : Nat} (hm : l.length = m + 1) : inB (lk l) 0 1099511627776 = true := by
  unfold rgOk at h
  rw [Bool.and_eq_true] at h
  rw [lk_eq hm]
  exact List.all_eq_true.1 h.2 _ (List.getElem_mem _)
def RetCiph2 (v x : Int) (l : List UInt8) (t : Int) (ok : Bool) (w : World) (en : Ending) (w' : World) : Prop :=
  ∃ A c, en = .returned (.tuple #[.agg #[.int .i64 v, .int .i64 x, .slice A l.length c, .int .i64 t], .bool ok]) ∧ l.length ≤ c ∧ w'.ownsRow w.heap.size 5 1 (.slice A l.length c) l.length (bC l) ∧ Below w.heap.size w w'
def RetCiph (v x : Int) (l : List UInt8) (t : Int) (w : World) (en : Ending) (w' : World) : Prop :=
  ∃ A c, en = .returned (.agg #[.int .i64 v, .int .i64 x, .slice A l.length c, .int .i64 t]) ∧ l.length ≤ c ∧ w'.ownsRow w.heap.size 5 1 (.slice A l.length c) l.length (bC l) ∧ Below w.heap.size w w'
theorem ringSeal_c (x nonce : Int) (A Ap : Option Addr) (m c np cp : Nat) (l : List Int) (p : List UInt8) (w : World) (hr : Rd w w.heap.size 1 A (m + 1) (iC l)) (hp : Rd w w.heap.size 1 Ap np (bC p))
    (h1 : rgOk x l = true) (h2 : inB nonce 0 1099511627776 = true) (h3 : np ≤ 2000) :
    Calls Try.prog 146 #[.agg #[.int .i64 x, .slice A (m + 1) c], .int .i64 nonce, .slice Ap np cp] w (RetCiph (x + m) nonce (xB (lk l) nonce p) (tagB (lk l) nonce (xB (lk l) nonce p)) w) := by
  have hpn := hp.bn
  subst hpn
  have hln := hr.in_
  obtain ⟨b, off, rfl, hblt, hl, hc⟩ := hr.int_ (k := m) (by omega)
  have hk := rg_key h1 hln
  obtain ⟨hx1, hx2, _, hx4⟩ := rg_bd h1
  have hm12 : m ≤ 11 := by omega
  rw [← lk_eq hln] at hc
  obtain ⟨b1, b2⟩ := inB_true.1 hk
  obtain ⟨b3, b4⟩ := inB_true.1 h2
  have HLN := hide hln
  have m0 : (0 : Int) ≤ (m : Int) := by omega
  have m1 : (m : Int) < (m : Int) + 1 := by omega
  clear hln hl
  generalize lk l = key at *
  go_enter Try.func146, Try.ntmps146
  go_wp2_with fail
  have L := (Blk.new w 58 #[.int .i64 x, .slice (some ⟨b, off, none⟩) (m + 1) c]).alloc (.cells #[.int .i64 0, .int .i64 0, .slice none 0 0, .int .i64 0] 100)
  have M := Blk.new1 w (.cells #[.int .i64 x, .slice (some ⟨b, off, none⟩) (m + 1) c] 58) 100 #[.int .i64 0, .int .i64 0, .slice none 0 0, .int .i64 0]
  have hB : Below w.heap.size w ((w.alloc (.cells #[.int .i64 x, .slice (some ⟨b, off, none⟩) (m + 1) c] 58)).alloc (.cells #[.int .i64 0, .int .i64 0, .slice none 0 0, .int .i64 0] 100)) := (by repeat (first | with_reducible exact Below.refl _ _ | with_reducible assumption | refine Below.alloc ?_ (by first | omega | (simp; done) | (simp; omega)) _ | refine Below.setCell ?_ (by first | omega | (simp; done) | (simp; omega)) _ | refine Below.drew ?_ | refine below_drewN ?_ _ | exact Below.refl _ _ | assumption))
  have hcc := (hB.cell (p := ⟨b, off + m, none⟩) hblt).trans hc
  replace L := L.drew
  replace M := M.drew
  replace hB := hB.drew
  have q0 : ((w.alloc (.cells #[.int .i64 x, .slice (some ⟨b, off, none⟩) (m + 1) c] 58)).alloc (.cells #[.int .i64 0, .int .i64 0, .slice none 0 0, .int .i64 0] 100)).drew.cell? ⟨w.heap.size, 0, none⟩ = some (.int .i64 x) := L.cell 0
  have q1 : ((w.alloc (.cells #[.int .i64 x, .slice (some ⟨b, off, none⟩) (m + 1) c] 58)).alloc (.cells #[.int .i64 0, .int .i64 0, .slice none 0 0, .int .i64 0] 100)).drew.cell? ⟨w.heap.size, 1, none⟩ = some (.slice (some ⟨b, off, none⟩) (m + 1) c) := L.cell 1
  replace hcc : ((w.alloc (.cells #[.int .i64 x, .slice (some ⟨b, off, none⟩) (m + 1) c] 58)).alloc (.cells #[.int .i64 0, .int .i64 0, .slice none 0 0, .int .i64 0] 100)).drew.cell? ⟨b, off + m, none⟩ = some (.int .i64 key) := hcc
  clear L
  first | go_region_held3 (fun w' => w'.cell? ⟨w.heap.size, 0, none⟩ = some (.int .i64 x) ∧ w'.cell? ⟨w.heap.size, 1, none⟩ = some (.slice (some ⟨b, off, none⟩) (m + 1) c) ∧ w'.cell? ⟨b, off + m, none⟩ = some (.int .i64 key)) (first | with_reducible exact ⟨q0, q1, hcc⟩ | with_reducible exact ⟨cell_set_far (cell_set_far (cell_set_far (cell_set_far q0 (by first | omega | (simp; done) | (simp; omega))) (by first | omega | (simp; done) | (simp; omega))) (by first | omega | (simp; done) | (simp; omega))) (by first | omega | (simp; done) | (simp; omega)), cell_set_far (cell_set_far (cell_set_far (cell_set_far q1 (by first | omega | (simp; done) | (simp; omega))) (by first | omega | (simp; done) | (simp; omega))) (by first | omega | (simp; done) | (simp; omega))) (by first | omega | (simp; done) | (simp; omega)), cell_set_far (cell_set_far (cell_set_far (cell_set_far hcc (by first | omega | (simp; done) | (simp; omega))) (by first | omega | (simp; done) | (simp; omega))) (by first | omega | (simp; done) | (simp; omega))) (by first | omega | (simp; done) | (simp; omega))⟩) (first | (go_at_call 140; refine (sealBox_c key nonce Ap _ cp p _ b1 b2 b3 b4 h3 (hp.up hB)).mono ?_; rintro e w1 ⟨A1, c1, rfl, hc1, ho1, hb1⟩; replace hB := then_ hB hb1 hB.size; obtain ⟨M, qM, fM, _⟩ := M.step hb1; replace q0 := cell_old q0 hb1 (by first | omega | (simp; done) | (simp; omega)); replace q1 := cell_old q1 hb1 (by first | omega | (simp; done) | (simp; omega)); replace hcc := cell_old hcc hb1 (by first | omega | (simp; done) | (simp; omega)))) | fail
  go_wp2_with fail
  have hw : IntKind.i64.wrap (x + (m : Int)) = x + m := by rw [IntKind.wrap_i64]; omega
  refine bodyPost_ret (v := .agg #[.int .i64 (x + (m : Int)), .int .i64 nonce, .slice A1 (xB key nonce p).length c1, .int .i64 (tagB key nonce (xB key nonce p))]) (by simp [results, Try.results146, go_sem, qM, hw]) rfl ?_
  have hz := hb1.size
  simp at hz
  replace ho1 := own_mono (base' := w.heap.size + 1 + 1) ho1 (by first | omega | (simp; done) | (simp; omega))
  refine ⟨_, _, rfl, hc1, ?_, (by repeat (first | with_reducible exact Below.refl _ _ | with_reducible assumption | refine Below.alloc ?_ (by first | omega | (simp; done) | (simp; omega)) _ | refine Below.setCell ?_ (by first | omega | (simp; done) | (simp; omega)) _ | refine Below.drew ?_ | refine below_drewN ?_ _ | exact Below.refl _ _ | assumption))⟩
  exact own_mono (base := w.heap.size + 1 + 1) (by repeat (first | with_reducible assumption | with_reducible refine ownsRow_setCell_below ?_ (by first | omega | (simp; done) | (simp; omega)) _ | with_reducible refine World.ownsRow.alloc ?_ _ | exact own_mono (by assumption) (by first | omega | (simp; done) | (simp; omega)) | assumption | refine ownsRow_setCell_below ?_ (by first | omega | (simp; done) | (simp; omega)) _ | refine World.ownsRow.alloc ?_ _)) (by omega)
theorem rs_cases {x n : Int} {l : List Int} {p : List UInt8} (h : rsOk x l n p = false) : rgOk x l = false ∨ (rgOk x l = true ∧ inB n 0 1099511627776 = false) ∨ (rgOk x l = true ∧ inB n 0 1099511627776 = true ∧ 2000 < p.length) := by
  cases h1 : rgOk x l
  · exact .inl rfl
  · right
    obtain ⟨_, _, hl, _⟩ := rg_bd h1
    unfold rsOk at h
    rw [h1, Bool.true_and] at h
    rcases tag_cases h with h2 | ⟨h2, h3⟩ | ⟨h2, h3, h4⟩
    · have := rg_key h1 (m := l.length - 1) (by omega)
      rw [h2] at this
      cases this
    · exact .inl ⟨rfl, h3⟩
    · exact .inr ⟨rfl, h3, h4⟩
theorem RingSeal_i (x nonce : Int) (A Ap : Option Addr) (n c np cp : Nat) (l : List Int) (p : List UInt8) (w : World) (hr : Rd w w.heap.size 1 A n (iC l)) (hp : Rd w w.heap.size 1 Ap np (bC p)) :
    Calls Try.prog 94 #[.agg #[.int .i64 x, .slice A n c], .int .i64 nonce, .slice Ap np cp] w (RetCiph2 (rsV x l nonce p) (rsX x l nonce p) (rsL x l nonce p) (rsT x l nonce p) (rsOk x l nonce p) w) := by
  have hpn := hp.bn
  have hpb := hp.bd
  subst hpn
  cases hok : rsOk x l nonce p
  · obtain ⟨e1, e2, e3, e4⟩ := rs_no hok
    rw [e1, e2, e3, e4]
    clear e1 e2 e3 e4
    have hcs := rs_cases hok
    clear hok
    rcases hcs with h1 | ⟨h1, h2⟩ | ⟨h1, h2, h3⟩
    all_goals
      go_enter Try.func94, Try.ntmps94
      go_wp2_with fail
      have M := Blk.new1 w (.cells #[.int .i64 x, .slice A n c] 58) 100 #[.int .i64 0, .int .i64 0, .slice none 0 0, .int .i64 0]
      refine (isRing_c x A n c l _ (hr.up (by repeat (first | with_reducible exact Below.refl _ _ | with_reducible assumption | refine Below.alloc ?_ (by first | omega | (simp; done) | (simp; omega)) _ | refine Below.setCell ?_ (by first | omega | (simp; done) | (simp; omega)) _ | refine Below.drew ?_ | refine below_drewN ?_ _ | exact Below.refl _ _ | assumption)))).mono ?_
      rintro e w1 ⟨rfl, hb1⟩
      have hB : Below w.heap.size w w1 := then_ (by repeat (first | with_reducible exact Below.refl _ _ | with_reducible assumption | refine Below.alloc ?_ (by first | omega | (simp; done) | (simp; omega)) _ | refine Below.setCell ?_ (by first | omega | (simp; done) | (simp; omega)) _ | refine Below.drew ?_ | refine below_drewN ?_ _ | exact Below.refl _ _ | assumption)) hb1 (by first | omega | (simp; done) | (simp; omega))
      have hz := hb1.size
      simp at hz
      obtain ⟨M, qM, fM, _⟩ := M.step hb1
      clear hb1
      go_wp2_with (go_at_call 123; refine (isKey_c _ _).mono ?_; rintro e w' ⟨rfl, rfl⟩)
      refine bodyPost_ret (v := .tuple #[.agg #[.int .i64 0, .int .i64 0, .slice none 0 0, .int .i64 0], .bool false]) (by simp [results, Try.results94, go_sem, qM]) rfl ?_
      exact ⟨_, _, rfl, Nat.le_refl _, World.ownsRow_nil _ _ _ _, (by repeat (first | with_reducible exact Below.refl _ _ | with_reducible assumption | refine Below.alloc ?_ (by first | omega | (simp; done) | (simp; omega)) _ | refine Below.setCell ?_ (by first | omega | (simp; done) | (simp; omega)) _ | refine Below.drew ?_ | refine below_drewN ?_ _ | exact Below.refl _ _ | assumption))⟩
  · obtain ⟨e1, e2, e3, e4⟩ := rs_yes hok
    rw [e1, e2, e3, e4]
    clear e1 e2 e3 e4
    unfold rsOk at hok
    rw [Bool.and_eq_true] at hok
    obtain ⟨h1, h0⟩ := hok
    obtain ⟨_, h2, h3⟩ := tag_true h0
    obtain ⟨_, _, hl, _⟩ := rg_bd h1
    have hln := hr.in_
    obtain ⟨m, rfl⟩ : ∃ m, n = m + 1 := ⟨n - 1, by omega⟩
    rw [show l.length - 1 = m from by omega]
    clear hln h0 hl
    have hxl := hide (xB_length (lk l) nonce p)
    go_enter Try.func94, Try.ntmps94
    go_wp2_with fail
    have M := Blk.new1 w (.cells #[.int .i64 x, .slice A (m + 1) c] 58) 100 #[.int .i64 0, .int .i64 0, .slice none 0 0, .int .i64 0]
    have L := (Blk.new w 58 #[.int .i64 x, .slice A (m + 1) c]).alloc (.cells #[.int .i64 0, .int .i64 0, .slice none 0 0, .int .i64 0] 100)
    refine (isRing_c x A _ c l _ (hr.up (by repeat (first | with_reducible exact Below.refl _ _ | with_reducible assumption | refine Below.alloc ?_ (by first | omega | (simp; done) | (simp; omega)) _ | refine Below.setCell ?_ (by first | omega | (simp; done) | (simp; omega)) _ | refine Below.drew ?_ | refine below_drewN ?_ _ | exact Below.refl _ _ | assumption)))).mono ?_
    rintro e w1 ⟨rfl, hb1⟩
    have hB : Below w.heap.size w w1 := then_ (by repeat (first | with_reducible exact Below.refl _ _ | with_reducible assumption | refine Below.alloc ?_ (by first | omega | (simp; done) | (simp; omega)) _ | refine Below.setCell ?_ (by first | omega | (simp; done) | (simp; omega)) _ | refine Below.drew ?_ | refine below_drewN ?_ _ | exact Below.refl _ _ | assumption)) hb1 (by first | omega | (simp; done) | (simp; omega))
    have hz := hb1.size
    simp at hz
    obtain ⟨M, qM, fM, _⟩ := M.step hb1
    obtain ⟨L, qL, _, _⟩ := L.step hb1
    clear hb1
    go_wp2_with (go_at_call 123; refine (isKey_c _ _).mono ?_; rintro e w' ⟨rfl, rfl⟩)
    refine (ringSeal_c x nonce A Ap m c _ cp l p _ (hr.up hB) (hp.up hB) h1 h2 h3).mono ?_
    rintro e w2 ⟨A2, c2, rfl, hc2, ho2, hb2⟩
    replace hB := then_ hB hb2 hB.size
    have hz2 := hb2.size
    obtain ⟨M, qM, fM, _⟩ := M.step hb2
    replace ho2 := own_mono (base' := w.heap.size + 1 + 1) ho2 (by first | omega | (simp; done) | (simp; omega))
    clear hb2
    go_wp2_with fail
    refine bodyPost_ret (v := .tuple #[.agg #[.int .i64 (x + (m : Int)), .int .i64 nonce, .slice A2 (xB (lk l) nonce p).length c2, .int .i64 (tagB (lk l) nonce (xB (lk l) nonce p))], .bool true]) (by simp [results, Try.results94, go_sem, qM]) rfl ?_
    refine ⟨_, _, rfl, hc2, ?_, (by repeat (first | with_reducible exact Below.refl _ _ | with_reducible assumption | refine Below.alloc ?_ (by first | omega | (simp; done) | (simp; omega)) _ | refine Below.setCell ?_ (by first | omega | (simp; done) | (simp; omega)) _ | refine Below.drew ?_ | refine below_drewN ?_ _ | exact Below.refl _ _ | assumption))⟩
    exact own_mono (base := w.heap.size + 1 + 1) (by repeat (first | with_reducible assumption | with_reducible refine ownsRow_setCell_below ?_ (by first | omega | (simp; done) | (simp; omega)) _ | with_reducible refine World.ownsRow.alloc ?_ _ | exact own_mono (by assumption) (by first | omega | (simp; done) | (simp; omega)) | assumption | refine ownsRow_setCell_below ?_ (by first | omega | (simp; done) | (simp; omega)) _ | refine World.ownsRow.alloc ?_ _)) (by omega)
theorem RingSeal_s (x nonce : Int) (A Ap : Option Addr) (n c np cp : Nat) (l : List Int) (p : List UInt8) (w : World) (hr : Rd w w.heap.size 1 A n (iC l)) (hp : Rd w w.heap.size 1 Ap np (bC p)) :
    Calls Try.prog 93 #[.agg #[.int .i64 x, .slice A n c], .int .i64 nonce, .slice Ap np cp] w (RetCiph2 (rsV x l nonce p) (rsX x l nonce p) (rsL x l nonce p) (rsT x l nonce p) (rsOk x l nonce p) w) := by
  have hpn := hp.bn
  have hpb := hp.bd
  subst hpn
  cases h1 : rgOk x l
  · have hok : rsOk x l nonce p = false := by unfold rsOk; rw [h1]; rfl
    obtain ⟨e1, e2, e3, e4⟩ := rs_no hok
    rw [e1, e2, e3, e4, hok]
    clear e1 e2 e3 e4 hok
    go_enter Try.func93, Try.ntmps93
    go_wp2_with fail
    have M := Blk.new1 w (.cells #[.int .i64 x, .slice A n c] 58) 100 #[.int .i64 0, .int .i64 0, .slice none 0 0, .int .i64 0]
    refine (RingOk_s x A n c l _ (hr.up (by repeat (first | with_reducible exact Below.refl _ _ | with_reducible assumption | refine Below.alloc ?_ (by first | omega | (simp; done) | (simp; omega)) _ | refine Below.setCell ?_ (by first | omega | (simp; done) | (simp; omega)) _ | refine Below.drew ?_ | refine below_drewN ?_ _ | exact Below.refl _ _ | assumption)))).mono ?_
    rintro e w1 ⟨rfl, hb1⟩
    have hB : Below w.heap.size w w1 := then_ (by repeat (first | with_reducible exact Below.refl _ _ | with_reducible assumption | refine Below.alloc ?_ (by first | omega | (simp; done) | (simp; omega)) _ | refine Below.setCell ?_ (by first | omega | (simp; done) | (simp; omega)) _ | refine Below.drew ?_ | refine below_drewN ?_ _ | exact Below.refl _ _ | assumption)) hb1 (by first | omega | (simp; done) | (simp; omega))
    have hz := hb1.size
    simp at hz
    obtain ⟨M, qM, fM, _⟩ := M.step hb1
    clear hb1
    go_wp2_with fail
    refine bodyPost_ret (v := .tuple #[.agg #[.int .i64 0, .int .i64 0, .slice none 0 0, .int .i64 0], .bool false]) (by simp [results, Try.results93, go_sem, qM]) rfl ?_
    exact ⟨_, _, rfl, Nat.le_refl _, World.ownsRow_nil _ _ _ _, (by repeat (first | with_reducible exact Below.refl _ _ | with_reducible assumption | refine Below.alloc ?_ (by first | omega | (simp; done) | (simp; omega)) _ | refine Below.setCell ?_ (by first | omega | (simp; done) | (simp; omega)) _ | refine Below.drew ?_ | refine below_drewN ?_ _ | exact Below.refl _ _ | assumption))⟩
  · obtain ⟨hx1, hx2, hl1, hl12⟩ := rg_bd h1
    have hln := hr.in_
    obtain ⟨m, rfl⟩ : ∃ m, n = m + 1 := ⟨n - 1, by omega⟩
    have hm12 : m ≤ 11 := by omega
    obtain ⟨b, off, rfl, hblt, hl, hc⟩ := hr.int_ (k := m) (by omega)
    rw [← lk_eq hln] at hc
    have m0 : (0 : Int) ≤ (m : Int) := by omega
    have m1 : (m : Int) < (m : Int) + 1 := by omega
    have hok : tagOk (lk l) nonce p.length = rsOk x l nonce p := by unfold rsOk; rw [h1]; rfl
    have CS : Hid (∀ W, Rd W W.heap.size 1 Ap p.length (bC p) → Calls Try.prog 79 #[.int .i64 (lk l), .int .i64 nonce, .slice Ap p.length cp] W (RetBox2 (rsX x l nonce p) (rsL x l nonce p) (rsT x l nonce p) (rsOk x l nonce p) W)) := by
      intro W hW
      have h := SealBox_s (lk l) nonce Ap p.length cp p W hW
      have ex : sbX (lk l) nonce p = rsX x l nonce p := by unfold sbX rsX; rw [hok]
      have el : sbL (lk l) nonce p = rsL x l nonce p := by unfold sbL rsL; rw [hok]
      have et : sbT (lk l) nonce p = rsT x l nonce p := by unfold sbT rsT; rw [hok]
      rw [ex, el, et, hok] at h
      exact h
    have hV : rsV x l nonce p = if rsOk x l nonce p then x + m else 0 := by unfold rsV; rw [show l.length - 1 = m from by omega]
    have hno : rsOk x l nonce p = false → rsX x l nonce p = 0 ∧ rsL x l nonce p = [] ∧ rsT x l nonce p = 0 := fun h => (rs_no h).2
    rw [hV]
    clear hok hV hln hl
    have HNO := hide hno
    clear hno
    generalize rsX x l nonce p = x1 at *
    generalize rsL x l nonce p = l1 at *
    generalize rsT x l nonce p = t1 at *
    generalize lk l = key at *
    cases hk : rsOk x l nonce p
    · obtain ⟨rfl, rfl, rfl⟩ := HNO.out hk
      rw [hk] at CS
      clear HNO hk
      rw [if_neg (by simp)]
      go_enter Try.func93, Try.ntmps93
      go_wp2_with fail
      have M := Blk.new1 w (.cells #[.int .i64 x, .slice (some ⟨b, off, none⟩) (m + 1) c] 58) 100 #[.int .i64 0, .int .i64 0, .slice none 0 0, .int .i64 0]
      have L := (Blk.new w 58 #[.int .i64 x, .slice (some ⟨b, off, none⟩) (m + 1) c]).alloc (.cells #[.int .i64 0, .int .i64 0, .slice none 0 0, .int .i64 0] 100)
      refine (RingOk_s x _ _ c l _ (hr.up (by repeat (first | with_reducible exact Below.refl _ _ | with_reducible assumption | refine Below.alloc ?_ (by first | omega | (simp; done) | (simp; omega)) _ | refine Below.setCell ?_ (by first | omega | (simp; done) | (simp; omega)) _ | refine Below.drew ?_ | refine below_drewN ?_ _ | exact Below.refl _ _ | assumption)))).mono ?_
      rintro e w1 ⟨rfl, hb1⟩
      have hB : Below w.heap.size w w1 := then_ (by repeat (first | with_reducible exact Below.refl _ _ | with_reducible assumption | refine Below.alloc ?_ (by first | omega | (simp; done) | (simp; omega)) _ | refine Below.setCell ?_ (by first | omega | (simp; done) | (simp; omega)) _ | refine Below.drew ?_ | refine below_drewN ?_ _ | exact Below.refl _ _ | assumption)) hb1 (by first | omega | (simp; done) | (simp; omega))
      have hz := hb1.size
      simp at hz
      obtain ⟨M, qM, fM, _⟩ := M.step hb1
      obtain ⟨L, qL, _, _⟩ := L.step hb1
      have hcc := cell_old hc hB hblt
      clear hb1
      go_wp2_with fail
      refine (CS.out _ (hp.up hB)).mono ?_
      rintro e w2 ⟨A2, c2, rfl, hc2, ho2, hb2⟩
      replace hB := then_ hB hb2 hB.size
      have hz2 := hb2.size
      obtain ⟨M, qM, fM, ltM⟩ := M.step hb2
      clear hb2
      go_wp2_with fail
      refine bodyPost_ret (v := .tuple #[.agg #[.int .i64 0, .int .i64 0, .slice none 0 0, .int .i64 0], .bool false]) (by simp [results, Try.results93, go_sem, qM, ltM]) rfl ?_
      exact ⟨_, _, rfl, Nat.le_refl _, World.ownsRow_nil _ _ _ _, (by repeat (first | with_reducible exact Below.refl _ _ | with_reducible assumption | refine Below.alloc ?_ (by first | omega | (simp; done) | (simp; omega)) _ | refine Below.setCell ?_ (by first | omega | (simp; done) | (simp; omega)) _ | refine Below.drew ?_ | refine below_drewN ?_ _ | exact Below.refl _ _ | assumption))⟩
    · rw [hk] at CS
      clear HNO hk
      rw [if_pos rfl]
      go_enter Try.func93, Try.ntmps93
      go_wp2_with fail
      have M := Blk.new1 w (.cells #[.int .i64 x, .slice (some ⟨b, off, none⟩) (m + 1) c] 58) 100 #[.int .i64 0, .int .i64 0, .slice none 0 0, .int .i64 0]
      have L := (Blk.new w 58 #[.int .i64 x, .slice (some ⟨b, off, none⟩) (m + 1) c]).alloc (.cells #[.int .i64 0, .int .i64 0, .slice none 0 0, .int .i64 0] 100)
      refine (RingOk_s x _ _ c l _ (hr.up (by repeat (first | with_reducible exact Below.refl _ _ | with_reducible assumption | refine Below.alloc ?_ (by first | omega | (simp; done) | (simp; omega)) _ | refine Below.setCell ?_ (by first | omega | (simp; done) | (simp; omega)) _ | refine Below.drew ?_ | refine below_drewN ?_ _ | exact Below.refl _ _ | assumption)))).mono ?_
      rintro e w1 ⟨rfl, hb1⟩
      have hB : Below w.heap.size w w1 := then_ (by repeat (first | with_reducible exact Below.refl _ _ | with_reducible assumption | refine Below.alloc ?_ (by first | omega | (simp; done) | (simp; omega)) _ | refine Below.setCell ?_ (by first | omega | (simp; done) | (simp; omega)) _ | refine Below.drew ?_ | refine below_drewN ?_ _ | exact Below.refl _ _ | assumption)) hb1 (by first | omega | (simp; done) | (simp; omega))
      have hz := hb1.size
      simp at hz
      obtain ⟨M, qM, fM, _⟩ := M.step hb1
      obtain ⟨L, qL, _, _⟩ := L.step hb1
      have hcc := cell_old hc hB hblt
      clear hb1
      go_wp2_with fail
      refine (CS.out _ (hp.up hB)).mono ?_
      rintro e w2 ⟨A2, c2, rfl, hc2, ho2, hb2⟩
      replace hB := then_ hB hb2 hB.size
      have hz2 := hb2.size
      obtain ⟨M, qM, fM, ltM⟩ := M.step hb2
      obtain ⟨L, qL, _, _⟩ := L.step hb2
      replace ho2 := own_mono (base' := w.heap.size + 1 + 1) ho2 (by first | omega | (simp; done) | (simp; omega))
      clear hb2
      go_wp2_with fail
      refine bodyPost_ret (v := .tuple #[.agg #[.int .i64 (x + (m : Int)), .int .i64 x1, .slice A2 l1.length c2, .int .i64 t1], .bool true]) (by simp [results, Try.results93, go_sem, qM, ltM]) rfl ?_
      refine ⟨_, _, rfl, hc2, ?_, (by repeat (first | with_reducible exact Below.refl _ _ | with_reducible assumption | refine Below.alloc ?_ (by first | omega | (simp; done) | (simp; omega)) _ | refine Below.setCell ?_ (by first | omega | (simp; done) | (simp; omega)) _ | refine Below.drew ?_ | refine below_drewN ?_ _ | exact Below.refl _ _ | assumption))⟩
      exact own_mono (base := w.heap.size + 1 + 1) (by repeat (first | with_reducible assumption | with_reducible refine ownsRow_setCell_below ?_ (by first | omega | (simp; done) | (simp; omega)) _ | with_reducible refine World.ownsRow.alloc ?_ _ | exact own_mono (by assumption) (by first | omega | (simp; done) | (simp; omega)) | assumption | refine ownsRow_setCell_below ?_ (by first | omega | (simp; done) | (simp; omega)) _ | refine World.ownsRow.alloc ?_ _)) (by omega)
theorem eqCipher_c (v x t : Int) (A A' : Option Addr) (n c c' : Nat) (l : List UInt8) (w : World) (hr : Rd w w.heap.size 1 A n (bC l)) (hr' : Rd w w.heap.size 1 A' n (bC l)) :
    Calls Try.prog 95 #[.agg #[.int .i64 v, .int .i64 x, .slice A n c, .int .i64 t], .agg #[.int .i64 v, .int .i64 x, .slice A' n c', .int .i64 t]] w (RetV (.bool true) w) := by
  go_enter Try.func95, Try.ntmps95
  go_wp2_with fail
  refine (eqBox_c x t A A' n c c' l _ (hr.up (by repeat (first | with_reducible exact Below.refl _ _ | with_reducible assumption | refine Below.alloc ?_ (by first | omega | (simp; done) | (simp; omega)) _ | refine Below.setCell ?_ (by first | omega | (simp; done) | (simp; omega)) _ | refine Below.drew ?_ | refine below_drewN ?_ _ | exact Below.refl _ _ | assumption))) (hr'.up (by repeat (first | with_reducible exact Below.refl _ _ | with_reducible assumption | refine Below.alloc ?_ (by first | omega | (simp; done) | (simp; omega)) _ | refine Below.setCell ?_ (by first | omega | (simp; done) | (simp; omega)) _ | refine Below.drew ?_ | refine below_drewN ?_ _ | exact Below.refl _ _ | assumption)))).mono ?_
  rintro e w1 ⟨rfl, hb1⟩
  have hb01 : Below w.heap.size w w1 := then_ (by repeat (first | with_reducible exact Below.refl _ _ | with_reducible assumption | refine Below.alloc ?_ (by first | omega | (simp; done) | (simp; omega)) _ | refine Below.setCell ?_ (by first | omega | (simp; done) | (simp; omega)) _ | refine Below.drew ?_ | refine below_drewN ?_ _ | exact Below.refl _ _ | assumption)) hb1 (by first | omega | (simp; done) | (simp; omega))
  clear hb1
  go_wp2_with fail
  go_ret
  exact ⟨rfl, hb01⟩
theorem markCipher_m (v x t : Int) (A : Option Addr) (n c : Nat) (l : List UInt8) (w : World) (lo hi : Nat) (k : Int) (hr : Ow w lo hi 5 1 A n (bC l)) (hhi : hi ≤ w.heap.size) (hk0 : 0 ≤ k) (hk1 : k ≤ 1099511627776) (hn : n ≤ 1099511627776) :
    Calls Try.prog 96 #[.agg #[.int .i64 v, .int .i64 x, .slice A n c, .int .i64 t], .int .i64 k] w (MarkP (k + n) lo hi 5 A n (bC (markB k n)) w) := by
  go_enter Try.func96, Try.ntmps96
  go_wp2_with fail
  have hX := Below.alloc (Below.refl w.heap.size w) (Nat.le_refl _) (.cells #[.int .i64 v, .int .i64 x, .slice A n c, .int .i64 t] 100)
  refine (markBox_m x t A n c l _ lo hi k (hr.below hX hhi) (by first | omega | (simp; done) | (simp; omega)) hk0 hk1 hn).mono ?_
  rintro e w1 ⟨rfl, ho1, hch⟩
  have hBe : Mk lo hi w w1 := Mk.pre hX hch
  go_wp2_with fail
  go_ret
  exact ⟨rfl, ho1, hBe⟩
theorem heldCipher_c (v x t : Int) (A : Option Addr) (n c : Nat) (w : World) (hi : Nat) (k : Int) (hr : Rd w hi 1 A n (bC (markB k n))) (hhi : hi ≤ w.heap.size) (hk0 : 0 ≤ k) (hk1 : k ≤ 1099511627776) (hn : n ≤ 1099511627776) :
    Calls Try.prog 97 #[.agg #[.int .i64 v, .int .i64 x, .slice A n c, .int .i64 t], .int .i64 k] w (RetV (.int .i64 (k + n)) w) := by
  go_enter Try.func97, Try.ntmps97
  go_wp2_with fail
  refine (heldBox_c x t A n c _ hi k (hr.below (by repeat (first | with_reducible exact Below.refl _ _ | with_reducible assumption | refine Below.alloc ?_ (by first | omega | (simp; done) | (simp; omega)) _ | refine Below.setCell ?_ (by first | omega | (simp; done) | (simp; omega)) _ | refine Below.drew ?_ | refine below_drewN ?_ _ | exact Below.refl _ _ | assumption)) hhi) (by first | omega | (simp; done) | (simp; omega)) hk0 hk1 hn).mono ?_
  rintro e w1 ⟨rfl, hb1⟩
  have hB : Below w.heap.size w w1 := then_ (by repeat (first | with_reducible exact Below.refl _ _ | with_reducible assumption | refine Below.alloc ?_ (by first | omega | (simp; done) | (simp; omega)) _ | refine Below.setCell ?_ (by first | omega | (simp; done) | (simp; omega)) _ | refine Below.drew ?_ | refine below_drewN ?_ _ | exact Below.refl _ _ | assumption)) hb1 (by first | omega | (simp; done) | (simp; omega))
  go_wp2_with fail
  go_ret
  exact ⟨rfl, hB⟩
end Go.Proofs.Ytmebpmaldcogbaa
