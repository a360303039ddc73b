/- Shares that are alike: what the program's test gives. -/
import Derived.Test.YtgkjgaijjihmgaaA9
namespace Go.Proofs.Ytgkjgaijjihmgaa
open Go.RowKit Gf
set_option maxRecDepth 100000
set_option maxHeartbeats 400000
theorem alike1_c (x : Int) (A : Option Addr) (n c bs : Nat) (y : Int) (w : World) (hc : w.cell? ⟨bs, 0, none⟩ = some (.int .i64 y)) (hb : bs < w.heap.size) :
    Calls Try.prog 75 #[.agg #[.int .i64 x, .slice A n c], .pointer (some ⟨bs, 0, none⟩)] w (RetV (.bool (x == y)) w) := by
  have hc' := cell_old hc ((Below.refl w.heap.size w).alloc (Nat.le_refl _) (.cells #[.int .i64 x, .slice A n c] 31)) hb
  go_enter Try.func75, Try.ntmps75
  go_wp2_with fail
  go_ret
  exact ⟨rfl, (by repeat (first | with_reducible exact Below.refl _ _ | with_reducible assumption | refine Below.alloc ?_ (by first | omega | (simp; done) | (simp; omega)) _ | refine Below.setCell ?_ (by first | omega | (simp; done) | (simp; omega)) _ | refine Below.drew ?_ | refine below_drewN ?_ _ | exact Below.refl _ _ | assumption))⟩
theorem give1_c (x : Int) (A : Option Addr) (n c bs : Nat) (y : Int) (w : World) (hc : w.cell? ⟨bs, 0, none⟩ = some (.int .i64 y)) (hb : bs < w.heap.size) :
    Calls Try.prog 55 #[.agg #[.int .i64 x, .slice A n c], .pointer (some ⟨bs, 0, none⟩)] w (RetV (.bool (x == y)) w) := by
  have hc' := cell_old hc ((Below.refl w.heap.size w).alloc (Nat.le_refl _) (.cells #[.int .i64 x, .slice A n c] 31)) hb
  go_enter Try.func55, Try.ntmps55
  go_wp2_with fail
  go_ret
  exact ⟨rfl, (by repeat (first | with_reducible exact Below.refl _ _ | with_reducible assumption | refine Below.alloc ?_ (by first | omega | (simp; done) | (simp; omega)) _ | refine Below.setCell ?_ (by first | omega | (simp; done) | (simp; omega)) _ | refine Below.drew ?_ | refine below_drewN ?_ _ | exact Below.refl _ _ | assumption))⟩
def idxS (ss : List Sh) (y : Int) : Int := match ss.findIdx? (fun s => s.1 == y) with
  | some k => (k : Int)
  | none => -1
theorem idxS_any (ss : List Sh) (y : Int) : (ss.any fun s => s.1 == y) = decide (0 ≤ idxS ss y) := by
  unfold idxS
  cases h : ss.findIdx? (fun s => s.1 == y) with
  | none =>
    rw [List.findIdx?_eq_none_iff] at h
    simp only [show decide ((0 : Int) ≤ -1) = false from rfl]
    rw [List.any_eq_false]
    intro s hs
    simpa using h s hs
  | some k =>
    obtain ⟨hk, hp, _⟩ := List.findIdx?_eq_some_iff_getElem.1 h
    simp only [show decide ((0 : Int) ≤ (k : Int)) = true from by simp]
    rw [List.any_eq_true]
    exact ⟨_, List.getElem_mem hk, hp⟩
theorem indexFuncS160_c (A : Option Addr) (n c : Nat) (p : Option Addr) (y : Int) (ss : List Sh) (w : World) (hr : ShR w w.heap.size A n ss)
    (hp : ∀ (x : Int) (A : Option Addr) (n c : Nat) (W : World), Below w.heap.size w W → Calls Try.prog 75 #[.agg #[.int .i64 x, .slice A n c], .pointer p] W (RetV (.bool (x == y)) W)) :
    Calls Try.prog 74 #[.slice A n c, .func (.func 75) #[] #[.pointer p]] w (RetV (.int .i64 (idxS ss y)) w) := by
  have HP := hide hp
  have hn := hr.bd
  have hln := hide hr.1
  clear hp
  go_enter Try.func74, Try.ntmps74
  go_wp2_with fail
  go_loopw [5, 8] (fun _ i wr => ∃ k : Nat, k ≤ n ∧ i = .int .i64 k ∧ Below w.heap.size w wr ∧ ∀ j (hj : j < ss.length), j < k → (ss[j].1 == y) = false) (fun _ i _ => n - (intOf i).toNat)
  case atStart => exact ⟨0, by omega, rfl, Below.refl _ _, fun j _ hj => by omega⟩
  case round =>
    obtain ⟨k, hk, rfl, hB, hne⟩ := hrel
    have HNE := hide hne
    clear hne
    by_cases hlt : k < n
    · obtain ⟨b, off, rfl, hblt, hl, Ak, ck, hx, hd, hrd⟩ := (hr.up hB).at_ hlt
      clear hrd
      cases hq : (ss[k].1 == y)
      · have HQ := hide hq
        clear hq
        go_wp2_with fail
        refine (HP.out ss[k].1 Ak _ ck _ hB).mono ?_
        rw [HQ.out]
        rintro e w1 ⟨rfl, hb1⟩
        have hB1 := then_ hB hb1 hB.size
        clear hb1 hx hd
        go_wp2_with fail
        exact ⟨⟨k + 1, by omega, by go_num, hB1, fun j hj hjk => by
          by_cases e : j = k
          · subst e; exact HQ.out
          · exact HNE.out j hj (by omega)⟩, by simp [intOf]; omega⟩
      · have HQ := hide hq
        clear hq
        have HI : Hid (idxS ss y = k) := by
          show idxS ss y = k
          have : ss.findIdx? (fun s => s.1 == y) = some k := List.findIdx?_eq_some_iff_getElem.2 ⟨hl, HQ.out, fun j hj => by
            have := HNE.out j (by omega) hj
            simp [this]⟩
          unfold idxS
          rw [this]
        go_wp2_with fail
        refine (HP.out ss[k].1 Ak _ ck _ hB).mono ?_
        rw [HQ.out]
        rintro e w1 ⟨rfl, hb1⟩
        have hB1 := then_ hB hb1 hB.size
        clear hb1 hx hd
        go_wp2_with fail
        go_ret
        exact ⟨ret_int HI.out.symm, hB1⟩
    · have HI : Hid (idxS ss y = -1) := by
        show idxS ss y = -1
        have : ss.findIdx? (fun s => s.1 == y) = none := List.findIdx?_eq_none_iff.2 fun s hs => by
          obtain ⟨j, hj, rfl⟩ := List.getElem_of_mem hs
          exact HNE.out j hj (by have := hln.out; omega)
        unfold idxS
        rw [this]
      go_wp2_with fail
      go_ret
      exact ⟨ret_int HI.out.symm, hB⟩
theorem containsFuncS160_c (A : Option Addr) (n c : Nat) (p : Option Addr) (y : Int) (ss : List Sh) (w : World) (hr : ShR w w.heap.size A n ss)
    (hp : ∀ (x : Int) (A : Option Addr) (n c : Nat) (W : World), Below w.heap.size w W → Calls Try.prog 75 #[.agg #[.int .i64 x, .slice A n c], .pointer p] W (RetV (.bool (x == y)) W)) :
    Calls Try.prog 54 #[.slice A n c, .func (.func 75) #[] #[.pointer p]] w (RetV (.bool (ss.any fun s => s.1 == y)) w) := by
  have HI := hide (idxS_any ss y)
  have HC := hide (indexFuncS160_c A n c p y ss w hr hp)
  clear hp
  generalize idxS ss y = i at HI HC
  by_cases h0 : 0 ≤ i
  · go_enter Try.func54, Try.ntmps54
    go_wp2_with fail
    refine HC.out.mono ?_
    rintro e w1 ⟨rfl, hb1⟩
    go_wp2_with fail
    go_ret
    exact ⟨by rw [HI.out, decide_eq_true h0]; rfl, hb1⟩
  · go_enter Try.func54, Try.ntmps54
    go_wp2_with fail
    refine HC.out.mono ?_
    rintro e w1 ⟨rfl, hb1⟩
    have h1 : decide (0 ≤ i) = false := decide_eq_false (by omega)
    go_wp2_with fail
    go_ret
    exact ⟨by rw [HI.out, h1]; rfl, hb1⟩
theorem indexFuncS144_c (A : Option Addr) (n c : Nat) (p : Option Addr) (y : Int) (ss : List Sh) (w : World) (hr : ShR w w.heap.size A n ss)
    (hp : ∀ (x : Int) (A : Option Addr) (n c : Nat) (W : World), Below w.heap.size w W → Calls Try.prog 55 #[.agg #[.int .i64 x, .slice A n c], .pointer p] W (RetV (.bool (x == y)) W)) :
    Calls Try.prog 74 #[.slice A n c, .func (.func 55) #[] #[.pointer p]] w (RetV (.int .i64 (idxS ss y)) w) := by
  have HP := hide hp
  have hn := hr.bd
  have hln := hide hr.1
  clear hp
  go_enter Try.func74, Try.ntmps74
  go_wp2_with fail
  go_loopw [5, 8] (fun _ i wr => ∃ k : Nat, k ≤ n ∧ i = .int .i64 k ∧ Below w.heap.size w wr ∧ ∀ j (hj : j < ss.length), j < k → (ss[j].1 == y) = false) (fun _ i _ => n - (intOf i).toNat)
  case atStart => exact ⟨0, by omega, rfl, Below.refl _ _, fun j _ hj => by omega⟩
  case round =>
    obtain ⟨k, hk, rfl, hB, hne⟩ := hrel
    have HNE := hide hne
    clear hne
    by_cases hlt : k < n
    · obtain ⟨b, off, rfl, hblt, hl, Ak, ck, hx, hd, hrd⟩ := (hr.up hB).at_ hlt
      clear hrd
      cases hq : (ss[k].1 == y)
      · have HQ := hide hq
        clear hq
        go_wp2_with fail
        refine (HP.out ss[k].1 Ak _ ck _ hB).mono ?_
        rw [HQ.out]
        rintro e w1 ⟨rfl, hb1⟩
        have hB1 := then_ hB hb1 hB.size
        clear hb1 hx hd
        go_wp2_with fail
        exact ⟨⟨k + 1, by omega, by go_num, hB1, fun j hj hjk => by
          by_cases e : j = k
          · subst e; exact HQ.out
          · exact HNE.out j hj (by omega)⟩, by simp [intOf]; omega⟩
      · have HQ := hide hq
        clear hq
        have HI : Hid (idxS ss y = k) := by
          show idxS ss y = k
          have : ss.findIdx? (fun s => s.1 == y) = some k := List.findIdx?_eq_some_iff_getElem.2 ⟨hl, HQ.out, fun j hj => by
            have := HNE.out j (by omega) hj
            simp [this]⟩
          unfold idxS
          rw [this]
        go_wp2_with fail
        refine (HP.out ss[k].1 Ak _ ck _ hB).mono ?_
        rw [HQ.out]
        rintro e w1 ⟨rfl, hb1⟩
        have hB1 := then_ hB hb1 hB.size
        clear hb1 hx hd
        go_wp2_with fail
        go_ret
        exact ⟨ret_int HI.out.symm, hB1⟩
    · have HI : Hid (idxS ss y = -1) := by
        show idxS ss y = -1
        have : ss.findIdx? (fun s => s.1 == y) = none := List.findIdx?_eq_none_iff.2 fun s hs => by
          obtain ⟨j, hj, rfl⟩ := List.getElem_of_mem hs
          exact HNE.out j hj (by have := hln.out; omega)
        unfold idxS
        rw [this]
      go_wp2_with fail
      go_ret
      exact ⟨ret_int HI.out.symm, hB⟩
theorem containsFuncS144_c (A : Option Addr) (n c : Nat) (p : Option Addr) (y : Int) (ss : List Sh) (w : World) (hr : ShR w w.heap.size A n ss)
    (hp : ∀ (x : Int) (A : Option Addr) (n c : Nat) (W : World), Below w.heap.size w W → Calls Try.prog 55 #[.agg #[.int .i64 x, .slice A n c], .pointer p] W (RetV (.bool (x == y)) W)) :
    Calls Try.prog 54 #[.slice A n c, .func (.func 55) #[] #[.pointer p]] w (RetV (.bool (ss.any fun s => s.1 == y)) w) := by
  have HI := hide (idxS_any ss y)
  have HC := hide (indexFuncS144_c A n c p y ss w hr hp)
  clear hp
  generalize idxS ss y = i at HI HC
  by_cases h0 : 0 ≤ i
  · go_enter Try.func54, Try.ntmps54
    go_wp2_with fail
    refine HC.out.mono ?_
    rintro e w1 ⟨rfl, hb1⟩
    go_wp2_with fail
    go_ret
    exact ⟨by rw [HI.out, decide_eq_true h0]; rfl, hb1⟩
  · go_enter Try.func54, Try.ntmps54
    go_wp2_with fail
    refine HC.out.mono ?_
    rintro e w1 ⟨rfl, hb1⟩
    have h1 : decide (0 ≤ i) = false := decide_eq_false (by omega)
    go_wp2_with fail
    go_ret
    exact ⟨by rw [HI.out, h1]; rfl, hb1⟩
theorem any_take {ss : List Sh} {k : Nat} (hk : k < ss.length) : ((ss.take k).any fun s => s.1 == ss[k].1) = dupA ss k := by
  cases h : dupA ss k
  · rw [List.any_eq_false]
    intro s hs
    obtain ⟨j, hj, rfl⟩ := List.getElem_of_mem hs
    have hj' : j < k := by rw [List.length_take] at hj; omega
    unfold dupA at h
    rw [List.any_eq_false] at h
    have := h j (List.mem_range.2 hj')
    rw [List.getElem?_eq_getElem (by omega), List.getElem?_eq_getElem hk] at this
    simpa [List.getElem_take] using this
  · rw [List.any_eq_true]
    unfold dupA at h
    rw [List.any_eq_true] at h
    obtain ⟨j, hj, h⟩ := h
    have hj := List.mem_range.1 hj
    rw [List.getElem?_eq_getElem (by omega), List.getElem?_eq_getElem hk] at h
    refine ⟨ss[j], ?_, by simpa using h⟩
    rw [List.mem_take_iff_getElem]
    exact ⟨j, by omega, rfl⟩
theorem areAlike_c (A : Option Addr) (n c : Nat) (ss : List Sh) (w : World) (hr : ShR w w.heap.size A n ss) (hnc : n ≤ c) :
    Calls Try.prog 70 #[.slice A n c] w (RetV (.bool (alikeB ss)) w) := by
  have hn := hr.bd
  have hln := hide hr.1
  go_enter Try.func70, Try.ntmps70
  go_wp2_with fail
  go_loopw [3, 4, 7] (fun _ _ i wr => ∃ k : Nat, k ≤ n ∧ i = .int .i64 k ∧ Below w.heap.size w wr ∧ ∀ j, j < k → goodA ss j = true ∧ dupA ss j = false) (fun _ _ i _ => n - (intOf i).toNat)
  case atStart => exact ⟨0, by omega, rfl, Below.refl _ _, fun j hj => by omega⟩
  case round =>
    obtain ⟨k, hk, rfl, hB, hall⟩ := hrel
    have HA := hide hall
    clear hall
    by_cases hlt : k < n
    · have hr' := hr.up hB
      obtain ⟨b, off, rfl, hblt, hl, Ak, ck, hx, hd, hrd⟩ := hr'.at_ hlt
      obtain ⟨b', off', e, _, hl0, A0, c0, hx0, hd0, hrd0⟩ := hr'.at_ (k := 0) (by omega)
      injection e with e
      injection e with e1 e2
      subst e1; subst e2
      simp only [Nat.zero_mul, Nat.add_zero] at hx0 hd0
      have hbk := hrd.bd
      have hb0 := hrd0.bd
      have HG := hide (good_eq hl)
      have k0 : (0 : Int) ≤ (k : Int) := by omega
      have k1 : (k : Int) < (n : Int) := by omega
      have k2 : (0 : Int) < (n : Int) := by omega
      have k3 : (k : Int) ≤ (c : Int) := by omega
      have HR := hide hr'
      have HT := hide (any_take hl)
      have HX := hide hx
      have HD := hide hd
      have HD0 := hide hd0
      clear hx0 hrd0 hrd hr'
      have HCK := fun W => isShare_c ss[k].1 Ak ss[k].2.length ck W hbk
      have CC : Hid (∀ (W : World), ShR W W.heap.size (some ⟨b, off, none⟩) n ss → ∀ bs, W.cell? ⟨bs, 0, none⟩ = some (.int .i64 ss[k].1) → bs < W.heap.size → Calls Try.prog 54 #[.slice (some ⟨b, off, none⟩) k c, .func (.func 75) #[] #[.pointer (some ⟨bs, 0, none⟩)]] W (RetV (.bool (dupA ss k)) W)) := by
        intro W hW bs hbs hlt2
        have h := containsFuncS160_c (some ⟨b, off, none⟩) k c (some ⟨bs, 0, none⟩) ss[k].1 (ss.take k) W (hW.take (by omega)) (fun x A n c W' hW' => alike1_c x A n c bs _ W' (cell_old hbs hW' hlt2) (Nat.lt_of_lt_of_le hlt2 hW'.size))
        rw [HT.out] at h
        exact h
      generalize hg1 : shOk ss[k].1 ss[k].2.length = g1 at HCK
      generalize hg3 : dupA ss k = g3 at CC
      have HG1 := hide hg1
      have HG3 := hide hg3
      have HCKK := hide HCK
      clear hg1 hg3 HCK HT
      have done : Hid (∀ w', g1 = false ∨ (ss[k].2.length == ss[0].2.length) = false ∨ g3 = true → Below w.heap.size w w' → RetV (.bool (alikeB ss)) w (.returned (.bool false)) w') := by
        intro w' h hb
        have hgood : alikeB ss = false := by
          rcases h with h | h | h
          · exact alike_false hl (.inl (by rw [HG.out, HG1.out, h]; rfl))
          · exact alike_false hl (.inl (by rw [HG.out, h, Bool.and_false]))
          · exact alike_false hl (.inr (by rw [HG3.out, h]))
        exact ⟨by rw [hgood], hb⟩
      cases g1
      · go_wp2_with fail
        clear hx hd hd0
        have N := Blk.new wr 31 #[.int .i64 ss[k].1, .slice Ak ss[k].2.length ck]
        have hbq : Below wr.heap.size wr (wr.alloc (.cells #[.int .i64 ss[k].1, .slice Ak ss[k].2.length ck] 31)) := (by repeat (first | with_reducible exact Below.refl _ _ | with_reducible assumption | refine Below.alloc ?_ (by first | omega | (simp; done) | (simp; omega)) _ | refine Below.setCell ?_ (by first | omega | (simp; done) | (simp; omega)) _ | refine Below.drew ?_ | refine below_drewN ?_ _ | exact Below.refl _ _ | assumption))
        have hzq : (wr.alloc (.cells #[.int .i64 ss[k].1, .slice Ak ss[k].2.length ck] 31)).heap.size = wr.heap.size + 1 := by simp
        generalize wr.alloc (.cells #[.int .i64 ss[k].1, .slice Ak ss[k].2.length ck] 31) = wq at N hbq hzq ⊢
        have hzq1 : wr.heap.size < wq.heap.size := by omega
        have qx := fun x : After wq.heap.size wq => x.cell (N.cell 0) hzq1
        have qd := fun x : After wq.heap.size wq => x.cell (N.cell 1) hzq1
        have q0 := fun x : After wq.heap.size wq => x.cell (cell_old HD0.out hbq hblt) (by omega)
        have HRR := hide (HR.out.up hbq)
        have HZ := hide hzq
        have hBq := hB.trans (hbq.mono hB.size)
        clear hzq N hbq
        refine wp_region_after wq.heap.size (by kernel_rfl) (by kernel_rfl) ?_
        repeat (go_big_quiet_step (first | (go_at_call 53; exact after_of (Nat.le_refl _) (HCKK.out _)) | (go_at_call 54; exact after_of (Nat.le_refl _) (CC.out _ (After.shr _ HRR.out (Nat.le_refl _) (Nat.le_refl _)) _ (qx _) (Nat.lt_of_lt_of_le hzq1 (After.below _).size)))))
        refine wpQuiet_nil ?_
        rintro w1 ⟨x_w1, e_w1⟩
        have hb1 := x_w1.below
        rw [← e_w1] at hb1
        clear e_w1 x_w1
        have hB1 := then_ hBq hb1 hBq.size
        clear qx qd q0
        go_wp2_with fail
        go_ret
        exact done.out _ (by simp) hB1
      cases h2 : (ss[k].2.length == ss[0].2.length)
      · have h3 : ((ss[k].2.length : Int) == (ss[0].2.length : Int)) = false := by simp at h2 ⊢; omega
        have h4 : ((ss[k].2.length : Int) != (ss[0].2.length : Int)) = true := by rw [bne, h3]; rfl
        have H2 := hide h2
        clear h2
        go_wp2_with fail
        clear hx hd hd0
        have N := Blk.new wr 31 #[.int .i64 ss[k].1, .slice Ak ss[k].2.length ck]
        have hbq : Below wr.heap.size wr (wr.alloc (.cells #[.int .i64 ss[k].1, .slice Ak ss[k].2.length ck] 31)) := (by repeat (first | with_reducible exact Below.refl _ _ | with_reducible assumption | refine Below.alloc ?_ (by first | omega | (simp; done) | (simp; omega)) _ | refine Below.setCell ?_ (by first | omega | (simp; done) | (simp; omega)) _ | refine Below.drew ?_ | refine below_drewN ?_ _ | exact Below.refl _ _ | assumption))
        have hzq : (wr.alloc (.cells #[.int .i64 ss[k].1, .slice Ak ss[k].2.length ck] 31)).heap.size = wr.heap.size + 1 := by simp
        generalize wr.alloc (.cells #[.int .i64 ss[k].1, .slice Ak ss[k].2.length ck] 31) = wq at N hbq hzq ⊢
        have hzq1 : wr.heap.size < wq.heap.size := by omega
        have qx := fun x : After wq.heap.size wq => x.cell (N.cell 0) hzq1
        have qd := fun x : After wq.heap.size wq => x.cell (N.cell 1) hzq1
        have q0 := fun x : After wq.heap.size wq => x.cell (cell_old HD0.out hbq hblt) (by omega)
        have HRR := hide (HR.out.up hbq)
        have HZ := hide hzq
        have hBq := hB.trans (hbq.mono hB.size)
        clear hzq N hbq
        refine wp_region_after wq.heap.size (by kernel_rfl) (by kernel_rfl) ?_
        repeat (go_big_quiet_step (first | (go_at_call 53; exact after_of (Nat.le_refl _) (HCKK.out _)) | (go_at_call 54; exact after_of (Nat.le_refl _) (CC.out _ (After.shr _ HRR.out (Nat.le_refl _) (Nat.le_refl _)) _ (qx _) (Nat.lt_of_lt_of_le hzq1 (After.below _).size)))))
        refine wpQuiet_nil ?_
        rintro w1 ⟨x_w1, e_w1⟩
        have hb1 := x_w1.below
        rw [← e_w1] at hb1
        clear e_w1 x_w1
        have hB1 := then_ hBq hb1 hBq.size
        clear qx qd q0
        go_wp2_with fail
        go_ret
        exact done.out _ (.inr (.inl H2.out)) hB1
      have h3 : ss[k].2.length = ss[0].2.length := by simpa using h2
      have h4 : ((ss[k].2.length : Int) != (ss[0].2.length : Int)) = false := by rw [h3]; simp
      have hgk : Hid (goodA ss k = true) := by show goodA ss k = true; rw [HG.out, HG1.out, h2]; rfl
      cases g3
      · clear h2 h3
        go_wp2_with fail
        clear hx hd hd0
        have N := Blk.new wr 31 #[.int .i64 ss[k].1, .slice Ak ss[k].2.length ck]
        have hbq : Below wr.heap.size wr (wr.alloc (.cells #[.int .i64 ss[k].1, .slice Ak ss[k].2.length ck] 31)) := (by repeat (first | with_reducible exact Below.refl _ _ | with_reducible assumption | refine Below.alloc ?_ (by first | omega | (simp; done) | (simp; omega)) _ | refine Below.setCell ?_ (by first | omega | (simp; done) | (simp; omega)) _ | refine Below.drew ?_ | refine below_drewN ?_ _ | exact Below.refl _ _ | assumption))
        have hzq : (wr.alloc (.cells #[.int .i64 ss[k].1, .slice Ak ss[k].2.length ck] 31)).heap.size = wr.heap.size + 1 := by simp
        generalize wr.alloc (.cells #[.int .i64 ss[k].1, .slice Ak ss[k].2.length ck] 31) = wq at N hbq hzq ⊢
        have hzq1 : wr.heap.size < wq.heap.size := by omega
        have qx := fun x : After wq.heap.size wq => x.cell (N.cell 0) hzq1
        have qd := fun x : After wq.heap.size wq => x.cell (N.cell 1) hzq1
        have q0 := fun x : After wq.heap.size wq => x.cell (cell_old HD0.out hbq hblt) (by omega)
        have HRR := hide (HR.out.up hbq)
        have HZ := hide hzq
        have hBq := hB.trans (hbq.mono hB.size)
        clear hzq N hbq
        refine wp_region_after wq.heap.size (by kernel_rfl) (by kernel_rfl) ?_
        repeat (go_big_quiet_step (first | (go_at_call 53; exact after_of (Nat.le_refl _) (HCKK.out _)) | (go_at_call 54; exact after_of (Nat.le_refl _) (CC.out _ (After.shr _ HRR.out (Nat.le_refl _) (Nat.le_refl _)) _ (qx _) (Nat.lt_of_lt_of_le hzq1 (After.below _).size)))))
        refine wpQuiet_nil ?_
        rintro w1 ⟨x_w1, e_w1⟩
        have hb1 := x_w1.below
        rw [← e_w1] at hb1
        clear e_w1 x_w1
        have hB1 := then_ hBq hb1 hBq.size
        clear qx qd q0
        go_wp2_with fail
        exact ⟨⟨k + 1, by omega, by go_num, hB1, fun j hj => by
          by_cases e : j = k
          · subst e; exact ⟨hgk.out, HG3.out⟩
          · exact HA.out j (by omega)⟩, by simp [intOf]; omega⟩
      · clear h2 h3
        go_wp2_with fail
        clear hx hd hd0
        have N := Blk.new wr 31 #[.int .i64 ss[k].1, .slice Ak ss[k].2.length ck]
        have hbq : Below wr.heap.size wr (wr.alloc (.cells #[.int .i64 ss[k].1, .slice Ak ss[k].2.length ck] 31)) := (by repeat (first | with_reducible exact Below.refl _ _ | with_reducible assumption | refine Below.alloc ?_ (by first | omega | (simp; done) | (simp; omega)) _ | refine Below.setCell ?_ (by first | omega | (simp; done) | (simp; omega)) _ | refine Below.drew ?_ | refine below_drewN ?_ _ | exact Below.refl _ _ | assumption))
        have hzq : (wr.alloc (.cells #[.int .i64 ss[k].1, .slice Ak ss[k].2.length ck] 31)).heap.size = wr.heap.size + 1 := by simp
        generalize wr.alloc (.cells #[.int .i64 ss[k].1, .slice Ak ss[k].2.length ck] 31) = wq at N hbq hzq ⊢
        have hzq1 : wr.heap.size < wq.heap.size := by omega
        have qx := fun x : After wq.heap.size wq => x.cell (N.cell 0) hzq1
        have qd := fun x : After wq.heap.size wq => x.cell (N.cell 1) hzq1
        have q0 := fun x : After wq.heap.size wq => x.cell (cell_old HD0.out hbq hblt) (by omega)
        have HRR := hide (HR.out.up hbq)
        have HZ := hide hzq
        have hBq := hB.trans (hbq.mono hB.size)
        clear hzq N hbq
        refine wp_region_after wq.heap.size (by kernel_rfl) (by kernel_rfl) ?_
        repeat (go_big_quiet_step (first | (go_at_call 53; exact after_of (Nat.le_refl _) (HCKK.out _)) | (go_at_call 54; exact after_of (Nat.le_refl _) (CC.out _ (After.shr _ HRR.out (Nat.le_refl _) (Nat.le_refl _)) _ (qx _) (Nat.lt_of_lt_of_le hzq1 (After.below _).size)))))
        refine wpQuiet_nil ?_
        rintro w1 ⟨x_w1, e_w1⟩
        have hb1 := x_w1.below
        rw [← e_w1] at hb1
        clear e_w1 x_w1
        have hB1 := then_ hBq hb1 hBq.size
        clear qx qd q0
        go_wp2_with fail
        go_ret
        exact done.out _ (by simp) hB1
    · have hall : alikeB ss = true := alike_true fun m hm => HA.out m (by rw [hln.out] at hm; omega)
      have HALL := hide hall
      clear hall
      go_wp2_with fail
      go_ret
      exact ⟨by rw [HALL.out]; rfl, hB⟩
end Go.Proofs.Ytgkjgaijjihmgaa
