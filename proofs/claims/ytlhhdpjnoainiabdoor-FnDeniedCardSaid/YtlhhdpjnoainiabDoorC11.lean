/- What Allowed and Weaker give, in the program and in its reference; each contract says for which arguments. -/
import Derived.Test.YtlhhdpjnoainiabDoorC10
namespace Go.Proofs.YtlhhdpjnoainiabDoor
open Go.RowKit
set_option maxRecDepth 100000
set_option maxHeartbeats 400000
def wants : List Int := [1, 2, 4, 8, 16]
theorem l01Has_c (A : Option Addr) (c : Nat) (l : List Int) (x : Int) (w : World) (hi : Nat) (hr : Rd w hi 1 A l.length (iC l)) :
    Calls Tryd.prog 74 #[.slice A l.length c, .int .i64 x] w (Pure (.bool (l.contains x)) w) := by
  have hn := hr.bd
  have HHIT : Hid (∀ k (hk : k < l.length), (l[k] == x) = true → l.contains x = true) := fun k hk h => by
    have : l[k] = x := by simpa using h
    rw [List.contains_iff_mem, ← this]; exact List.getElem_mem hk
  have HEND : Hid ((∀ k (hk : k < l.length), (l[k] == x) = false) → l.contains x = false) := fun h => by
    cases e : l.contains x with
    | false => rfl
    | true =>
      obtain ⟨k, hk, he⟩ := List.getElem_of_mem (List.contains_iff_mem.1 e)
      have := h k hk
      rw [he] at this; simp at this
  generalize l.contains x = R at HHIT HEND ⊢
  go_enter Tryd.func74, Tryd.ntmps74
  go_wp2_with fail
  go_loop [5] (fun i => ∃ k : Nat, k ≤ l.length ∧ i = .int .i64 k ∧ ∀ j (hj : j < l.length), j < k → (l[j] == x) = false) (fun i => l.length - (intOf i).toNat)
  case atStart => exact ⟨0, by omega, rfl, fun j _ hj => by omega⟩
  case round =>
    obtain ⟨k, hk, rfl, hne⟩ := hrel
    have HNE := hide hne
    clear hne
    by_cases hlt : k < l.length
    · obtain ⟨b, off, rfl, hblt, hl, hc⟩ := hr.int_ hlt
      cases hq : (l[k] == x)
      · have HN : Hid (∀ j (hj : j < l.length), j < k + 1 → (l[j] == x) = false) := fun j hj hjk => by
          by_cases e : j = k
          · subst e; exact hq
          · exact HNE.out j hj (by omega)
        go_wp2_with fail
        go_round
        case rel => exact ⟨k + 1, by omega, by go_num, HN.out⟩
        case measure => simp [intOf]; omega
      · have HQ := hide (HHIT.out k hl hq)
        go_wp2_with fail
        go_ret
        exact ⟨by rw [HQ.out]; rfl, rfl⟩
    · have HQ := hide (HEND.out fun j hj => HNE.out j hj (by omega))
      go_wp2_with fail
      go_ret
      exact ⟨by rw [HQ.out]; rfl, rfl⟩
def allowB (ps : List Pl) (p : ByteArray) (x : Int) : Bool := wants.contains x && (decide (0 ≤ capsR ps p) && !(bits .and .i64 (capsR ps p) x == 0))
theorem wants_no {x : Int} (h : wants.contains x = false) : (x == 1) = false ∧ (x == 2) = false ∧ (x == 4) = false ∧ (x == 8) = false ∧ (x == 16) = false := by
  simp [wants] at h
  simp; omega
theorem wants_yes {x : Int} (h : wants.contains x = true) : x = 1 ∨ x = 2 ∨ x = 4 ∨ x = 8 ∨ x = 16 := by
  simpa [wants] using h
theorem Allowed_i (A : Option Addr) (c : Nat) (ps : List Pl) (p : ByteArray) (x : Int) (w : World) (hg : GM w) (hr : PlR w w.heap.size A ps.length ps) (hz : ∀ y ∈ ps, ∀ z ∈ y.2, z.1.size < 4294967281) (hp : p.size < 4294967281) :
    Calls Tryd.prog 38 #[.slice A ps.length c, .string p, .int .i64 x] w (RetV (.bool (allowB ps p x)) w) := by
  have HR : Hid (allowB ps p x = (wants.contains x && (decide (0 ≤ capsR ps p) && !(bits .and .i64 (capsR ps p) x == 0)))) := rfl
  generalize allowB ps p x = R at HR ⊢
  have C := hide (capsOf_c A c ps p w hg hr hz hp)
  cases hw : wants.contains x
  · have HQ : Hid (R = false) := by show R = _; rw [HR.out, hw]; rfl
    obtain ⟨h1, h2, h3, h4, h5⟩ := wants_no hw
    clear hw HR C
    go_enter Tryd.func38, Tryd.ntmps38
    go_wp2_with fail
    go_ret
    exact ⟨by rw [HQ.out]; rfl, Below.refl _ _⟩
  have HS : Hid (R = (decide (0 ≤ capsR ps p) && !(bits .and .i64 (capsR ps p) x == 0))) := by show R = _; rw [HR.out, hw]; rfl
  generalize capsR ps p = K at C HS
  have hx := wants_yes hw
  clear hw HR
  by_cases h0 : 0 ≤ K
  · have HQ : Hid (R = !(bits .and .i64 K x == 0)) := by show R = _; rw [HS.out, decide_eq_true h0]; rfl
    clear HS
    rcases hx with rfl | rfl | rfl | rfl | rfl
    all_goals
      go_enter Tryd.func38, Tryd.ntmps38
      go_wp2_with fail
      refine C.out.mono ?_
      rintro e w1 ⟨rfl, hb1⟩
      go_wp2_with fail
      go_ret
      exact ⟨by rw [HQ.out]; rfl, hb1⟩
  · have HQ : Hid (R = false) := by show R = _; rw [HS.out, decide_eq_false h0]; rfl
    clear HS
    rcases hx with rfl | rfl | rfl | rfl | rfl
    all_goals
      go_enter Tryd.func38, Tryd.ntmps38
      go_wp2_with fail
      refine C.out.mono ?_
      rintro e w1 ⟨rfl, hb1⟩
      go_wp2_with fail
      go_ret
      exact ⟨by rw [HQ.out]; rfl, hb1⟩
theorem Allowed_s (A : Option Addr) (c : Nat) (ps : List Pl) (p : ByteArray) (x : Int) (w : World) (hr : PlR w w.heap.size A ps.length ps) (hz : ∀ y ∈ ps, ∀ z ∈ y.2, z.1.size < 4294967281) (hnm : ∀ x ∈ ps, x.1.size ≤ 9223372036854775806) (hp : p.size < 4294967281) :
    Calls Tryd.prog 37 #[.slice A ps.length c, .string p, .int .i64 x] w (RetV (.bool (allowB ps p x)) w) := by
  have HR : Hid (allowB ps p x = (wants.contains x && (decide (0 ≤ capsR ps p) && !(bits .and .i64 (capsR ps p) x == 0)))) := rfl
  generalize allowB ps p x = R at HR ⊢
  have hbA : Below w.heap.size w (w.alloc (.cells #[.int .i64 1, .int .i64 2, .int .i64 4, .int .i64 8, .int .i64 16] 3)) := (by repeat (first | with_reducible exact Below.refl _ _ | with_reducible assumption | refine Below.alloc ?_ (by first | omega | (simp; done) | (simp; omega)) _ | refine Below.setCell ?_ (by first | omega | (simp; done) | (simp; omega)) _ | refine Below.drew ?_ | refine below_drewN ?_ _ | exact Below.refl _ _ | assumption))
  have C := hide fun (W : World) (hb : Below w.heap.size w W) => CapsOf_s A c ps p W (hr.up hb) hz hnm hp
  have hm : Rd (w.alloc (.cells #[.int .i64 1, .int .i64 2, .int .i64 4, .int .i64 8, .int .i64 16] 3)) (w.heap.size + 1) 1 (some ⟨w.heap.size, 0, none⟩) wants.length (iC wants) := (Ow.made w #[.int .i64 1, .int .i64 2, .int .i64 4, .int .i64 8, .int .i64 16] 3 5 1 rfl (by omega)).rd
  have hH := l01Has_c _ 5 wants x _ _ hm
  cases hw : wants.contains x
  · have HQ : Hid (R = false) := by show R = _; rw [HR.out, hw]; rfl
    rw [hw] at hH
    clear hw HR C hm
    go_enter Tryd.func37, Tryd.ntmps37
    go_wp2_with fail
    refine hH.mono ?_
    rintro e w1 ⟨rfl, rfl⟩
    go_wp2_with fail
    go_ret
    exact ⟨by rw [HQ.out]; rfl, hbA⟩
  have HS : Hid (R = (decide (0 ≤ capsR ps p) && !(bits .and .i64 (capsR ps p) x == 0))) := by show R = _; rw [HR.out, hw]; rfl
  rw [hw] at hH
  generalize capsR ps p = K at C HS
  clear hw HR hm
  by_cases h0 : 0 ≤ K
  · have HQ : Hid (R = !(bits .and .i64 K x == 0)) := by show R = _; rw [HS.out, decide_eq_true h0]; rfl
    clear HS
    go_enter Tryd.func37, Tryd.ntmps37
    go_wp2_with fail
    refine hH.mono ?_
    rintro e w1 ⟨rfl, rfl⟩
    go_wp2_with fail
    refine (C.out _ hbA).mono ?_
    rintro e w2 ⟨rfl, hb2⟩
    have hB2 := then_ hbA hb2 hbA.size
    go_wp2_with fail
    go_ret
    exact ⟨by rw [HQ.out]; rfl, hB2⟩
  · have HQ : Hid (R = false) := by show R = _; rw [HS.out, decide_eq_false h0]; rfl
    clear HS
    go_enter Tryd.func37, Tryd.ntmps37
    go_wp2_with fail
    refine hH.mono ?_
    rintro e w1 ⟨rfl, rfl⟩
    go_wp2_with fail
    refine (C.out _ hbA).mono ?_
    rintro e w2 ⟨rfl, hb2⟩
    have hB2 := then_ hbA hb2 hbA.size
    go_wp2_with fail
    go_ret
    exact ⟨by rw [HQ.out]; rfl, hB2⟩
theorem capsR_cases (ps : List Pl) (p : ByteArray) : capsR ps p = -1 ∨ ∃ n : Nat, capsR ps p = n ∧ n ≤ 32 := by
  unfold capsR
  split
  · right
    refine ⟨_, rfl, ?_⟩
    unfold denyN
    split <;> omega
  · left; rfl
theorem strip32 : ∀ n : Nat, n ≤ 32 → bits .andNot .i64 (n : Int) 32 = (n : Int) % 32 := by
  intro n hn
  have : ∀ m, m < 33 → bits .andNot .i64 ((m : Nat) : Int) 32 = ((m : Nat) : Int) % 32 := by decide +kernel
  exact this n (by omega)
/-- what a path may not lose -/
def wkB (x y : Int) : Bool := decide (0 ≤ x) && (decide (0 ≤ y) && (bits .andNot .i64 (x % 32) y == 0))
def weakAt (a b : List Pl) (l : List ByteArray) (k : Nat) : Bool := match l[k]? with
  | none => true
  | some p => wkB (capsR a p) (capsR b p)
def weakB (a b : List Pl) (l : List ByteArray) : Bool := decide (l.length ≤ 200) && (List.range l.length).all (weakAt a b l)
theorem weakB_long {a b : List Pl} {l : List ByteArray} (h : 200 < l.length) : weakB a b l = false := by
  unfold weakB; rw [decide_eq_false (by omega)]; rfl
theorem weakB_bad {a b : List Pl} {l : List ByteArray} {k : Nat} (hk : k < l.length) (h : wkB (capsR a l[k]) (capsR b l[k]) = false) : weakB a b l = false := by
  cases e : weakB a b l with
  | false => rfl
  | true =>
    simp only [weakB, Bool.and_eq_true, List.all_eq_true, List.mem_range] at e
    have := e.2 k hk
    unfold weakAt at this
    rw [List.getElem?_eq_getElem hk] at this
    simp only at this
    rw [h] at this; cases this
theorem weakB_all {a b : List Pl} {l : List ByteArray} (hl : l.length ≤ 200) (h : ∀ k (hk : k < l.length), wkB (capsR a l[k]) (capsR b l[k]) = true) : weakB a b l = true := by
  simp only [weakB, Bool.and_eq_true, List.all_eq_true, List.mem_range, decide_eq_true_eq]
  refine ⟨hl, fun k hk => ?_⟩
  unfold weakAt
  rw [List.getElem?_eq_getElem hk]
  exact h k hk
theorem Weaker_i (A A2 A3 : Option Addr) (c c2 c3 : Nat) (a b : List Pl) (l : List ByteArray) (w : World) (hg : GM w) (hr : PlR w w.heap.size A a.length a) (hr2 : PlR w w.heap.size A2 b.length b) (hr3 : Rd w w.heap.size 1 A3 l.length (sC l)) (hz : ∀ y ∈ a, ∀ z ∈ y.2, z.1.size < 4294967281) (hz2 : ∀ y ∈ b, ∀ z ∈ y.2, z.1.size < 4294967281) (hl : ∀ x ∈ l, x.size < 4294967281) :
    Calls Tryd.prog 42 #[.slice A a.length c, .slice A2 b.length c2, .slice A3 l.length c3] w (RetV (.bool (weakB a b l)) w) := by
  have hn := hr3.bd
  have HBAD : Hid (∀ k (hk : k < l.length), wkB (capsR a l[k]) (capsR b l[k]) = false → weakB a b l = false) := fun k hk h => weakB_bad hk h
  have HALL : Hid (l.length ≤ 200 → (∀ k (hk : k < l.length), wkB (capsR a l[k]) (capsR b l[k]) = true) → weakB a b l = true) := weakB_all
  have HLG : Hid (200 < l.length → weakB a b l = false) := weakB_long
  generalize weakB a b l = R at HBAD HALL HLG ⊢
  by_cases h200 : 200 < l.length
  · have HQ := hide (HLG.out h200)
    go_enter Tryd.func42, Tryd.ntmps42
    go_wp2_with fail
    go_ret
    exact ⟨by rw [HQ.out]; rfl, Below.refl _ _⟩
  go_enter Tryd.func42, Tryd.ntmps42
  go_wp2_with fail
  go_loopw [8, 9, 10, 16] (fun _ _ _ iv wr => ∃ k : Nat, k ≤ l.length ∧ iv = .int .i64 k ∧ Below w.heap.size w wr ∧ ∀ j (hj : j < l.length), j < k → wkB (capsR a l[j]) (capsR b l[j]) = true) (fun _ _ _ iv _ => l.length - (intOf iv).toNat)
  case atStart => exact ⟨0, by omega, rfl, Below.refl _ _, fun j _ hj => by omega⟩
  case round =>
    obtain ⟨k, hk, rfl, hb, hall⟩ := hrel
    have HAL := hide hall
    clear hall
    by_cases hlt : k < l.length
    · obtain ⟨bb, off, rfl, hblt, hl', hc⟩ := (hr3.up hb).str hlt
      have hp := hl _ (List.getElem_mem hl')
      have C1 := capsOf_c A c a l[k] wr (hg.up hb) (hr.up hb) hz hp
      have C2 := hide fun (W : World) (hB : Below w.heap.size w W) => capsOf_c A2 c2 b l[k] W (hg.up hB) (hr2.up hB) hz2 hp
      have HN : Hid (wkB (capsR a l[k]) (capsR b l[k]) = true → ∀ j (hj : j < l.length), j < k + 1 → wkB (capsR a l[j]) (capsR b l[j]) = true) := fun h j hj hjk => by
        by_cases e : j = k
        · subst e; exact h
        · exact HAL.out j hj (by omega)
      have HF := hide (HBAD.out k hl')
      have hx := capsR_cases a l[k]
      have hy := capsR_cases b l[k]
      have HW : Hid (∀ x y, wkB x y = (decide (0 ≤ x) && (decide (0 ≤ y) && (bits .andNot .i64 (x % 32) y == 0)))) := fun _ _ => rfl
      generalize capsR a l[k] = X at C1 HN HF hx
      generalize capsR b l[k] = Y at C2 HN HF hy
      rcases hx with rfl | ⟨n, rfl, hn32⟩
      · have HQ := hide (HF.out (by rw [HW.out]; rfl))
        go_wp2_with fail
        refine C1.mono ?_
        rintro e w1 ⟨rfl, hb1⟩
        have hB1 := then_ hb hb1 hb.size
        go_wp2_with fail
        refine (C2.out _ hB1).mono ?_
        rintro e w2 ⟨rfl, hb2⟩
        have hB2 := then_ hB1 hb2 hB1.size
        go_wp2_with fail
        go_ret
        exact ⟨by rw [HQ.out]; rfl, hB2⟩
      · rcases hy with rfl | ⟨m, rfl, hm32⟩
        · have HQ := hide (HF.out (by rw [HW.out]; simp))
          go_wp2_with fail
          refine C1.mono ?_
          rintro e w1 ⟨rfl, hb1⟩
          have hB1 := then_ hb hb1 hb.size
          go_wp2_with fail
          refine (C2.out _ hB1).mono ?_
          rintro e w2 ⟨rfl, hb2⟩
          have hB2 := then_ hB1 hb2 hB1.size
          go_wp2_with fail
          go_ret
          exact ⟨by rw [HQ.out]; rfl, hB2⟩
        · have hs := strip32 n hn32
          cases ht : (bits .andNot .i64 ((n : Int) % 32) (m : Int) == 0)
          · have HQ := hide (HF.out (by rw [HW.out, ht]; simp))
            have ht2 : (bits .andNot .i64 (bits .andNot .i64 (n : Int) 32) (m : Int) != 0) = true := by rw [hs, bne, ht]; rfl
            clear hs ht
            go_wp2_with fail
            refine C1.mono ?_
            rintro e w1 ⟨rfl, hb1⟩
            have hB1 := then_ hb hb1 hb.size
            go_wp2_with fail
            refine (C2.out _ hB1).mono ?_
            rintro e w2 ⟨rfl, hb2⟩
            have hB2 := then_ hB1 hb2 hB1.size
            go_wp2_with fail
            go_ret
            exact ⟨by rw [HQ.out]; rfl, hB2⟩
          · have HQ := hide (HN.out (by rw [HW.out, ht]; simp))
            have ht2 : (bits .andNot .i64 (bits .andNot .i64 (n : Int) 32) (m : Int) != 0) = false := by rw [hs, bne, ht]; rfl
            clear hs ht
            go_wp2_with fail
            refine C1.mono ?_
            rintro e w1 ⟨rfl, hb1⟩
            have hB1 := then_ hb hb1 hb.size
            go_wp2_with fail
            refine (C2.out _ hB1).mono ?_
            rintro e w2 ⟨rfl, hb2⟩
            have hB2 := then_ hB1 hb2 hB1.size
            go_wp2_with fail
            exact ⟨⟨k + 1, by omega, by go_num, hB2, HQ.out⟩, by simp [intOf]; omega⟩
    · have HQ := hide (HALL.out (by omega) fun j hj => HAL.out j hj (by omega))
      go_wp2_with fail
      go_ret
      exact ⟨by rw [HQ.out]; rfl, hb⟩
theorem Weaker_s (A A2 A3 : Option Addr) (c c2 c3 : Nat) (a b : List Pl) (l : List ByteArray) (w : World) (hr : PlR w w.heap.size A a.length a) (hr2 : PlR w w.heap.size A2 b.length b) (hr3 : Rd w w.heap.size 1 A3 l.length (sC l)) (hz : ∀ y ∈ a, ∀ z ∈ y.2, z.1.size < 4294967281) (hz2 : ∀ y ∈ b, ∀ z ∈ y.2, z.1.size < 4294967281) (hna : ∀ y ∈ a, y.1.size ≤ 9223372036854775806) (hnb : ∀ y ∈ b, y.1.size ≤ 9223372036854775806) (hl : ∀ x ∈ l, x.size < 4294967281) :
    Calls Tryd.prog 41 #[.slice A a.length c, .slice A2 b.length c2, .slice A3 l.length c3] w (RetV (.bool (weakB a b l)) w) := by
  have hn := hr3.bd
  have HBAD : Hid (∀ k (hk : k < l.length), wkB (capsR a l[k]) (capsR b l[k]) = false → weakB a b l = false) := fun k hk h => weakB_bad hk h
  have HALL : Hid (l.length ≤ 200 → (∀ k (hk : k < l.length), wkB (capsR a l[k]) (capsR b l[k]) = true) → weakB a b l = true) := weakB_all
  have HLG : Hid (200 < l.length → weakB a b l = false) := weakB_long
  generalize weakB a b l = R at HBAD HALL HLG ⊢
  by_cases h200 : 200 < l.length
  · have HQ := hide (HLG.out h200)
    go_enter Tryd.func41, Tryd.ntmps41
    go_wp2_with fail
    go_ret
    exact ⟨by rw [HQ.out]; rfl, Below.refl _ _⟩
  go_enter Tryd.func41, Tryd.ntmps41
  go_wp2_with fail
  go_loopw [7, 8, 9] (fun iv _ _ wr => ∃ k : Nat, k ≤ l.length ∧ iv = .int .i64 k ∧ Below w.heap.size w wr ∧ ∀ j (hj : j < l.length), j < k → wkB (capsR a l[j]) (capsR b l[j]) = true) (fun iv _ _ _ => l.length - (intOf iv).toNat)
  case atStart => exact ⟨0, by omega, rfl, Below.refl _ _, fun j _ hj => by omega⟩
  case round =>
    obtain ⟨k, hk, rfl, hb, hall⟩ := hrel
    have HAL := hide hall
    clear hall
    by_cases hlt : k < l.length
    · obtain ⟨bb, off, rfl, hblt, hl', hc⟩ := (hr3.up hb).str hlt
      have hp := hl _ (List.getElem_mem hl')
      have C1 := CapsOf_s A c a l[k] wr (hr.up hb) hz hna hp
      have C2 := hide fun (W : World) (hB : Below w.heap.size w W) => CapsOf_s A2 c2 b l[k] W (hr2.up hB) hz2 hnb hp
      have HC := hide fun (W : World) (hB : Below wr.heap.size wr W) => cell_oldB hc hB hblt
      have HN : Hid (wkB (capsR a l[k]) (capsR b l[k]) = true → ∀ j (hj : j < l.length), j < k + 1 → wkB (capsR a l[j]) (capsR b l[j]) = true) := fun h j hj hjk => by
        by_cases e : j = k
        · subst e; exact h
        · exact HAL.out j hj (by omega)
      have HF := hide (HBAD.out k hl')
      have hx := capsR_cases a l[k]
      have hy := capsR_cases b l[k]
      have HW : Hid (∀ x y, wkB x y = (decide (0 ≤ x) && (decide (0 ≤ y) && (bits .andNot .i64 (x % 32) y == 0)))) := fun _ _ => rfl
      generalize capsR a l[k] = X at C1 HN HF hx
      generalize capsR b l[k] = Y at C2 HN HF hy
      rcases hx with rfl | ⟨n, rfl, hn32⟩
      · have HQ := hide (HF.out (by rw [HW.out]; rfl))
        go_wp2_with fail
        refine C1.mono ?_
        rintro e w1 ⟨rfl, hb1⟩
        have hB1 := then_ hb hb1 hb.size
        have hc1 := HC.out _ hb1
        go_wp2_with fail
        refine (C2.out _ hB1).mono ?_
        rintro e w2 ⟨rfl, hb2⟩
        have hB2 := then_ hB1 hb2 hB1.size
        go_wp2_with fail
        go_ret
        exact ⟨by rw [HQ.out]; rfl, hB2⟩
      · rcases hy with rfl | ⟨m, rfl, hm32⟩
        · have HQ := hide (HF.out (by rw [HW.out]; simp))
          go_wp2_with fail
          refine C1.mono ?_
          rintro e w1 ⟨rfl, hb1⟩
          have hB1 := then_ hb hb1 hb.size
          have hc1 := HC.out _ hb1
          go_wp2_with fail
          refine (C2.out _ hB1).mono ?_
          rintro e w2 ⟨rfl, hb2⟩
          have hB2 := then_ hB1 hb2 hB1.size
          go_wp2_with fail
          go_ret
          exact ⟨by rw [HQ.out]; rfl, hB2⟩
        · cases ht : (bits .andNot .i64 ((n : Int) % 32) (m : Int) == 0)
          · have HQ := hide (HF.out (by rw [HW.out, ht]; simp))
            have ht2 : (bits .andNot .i64 ((n : Int) % 32) (m : Int) != 0) = true := by rw [bne, ht]; rfl
            clear ht
            go_wp2_with fail
            refine C1.mono ?_
            rintro e w1 ⟨rfl, hb1⟩
            have hB1 := then_ hb hb1 hb.size
            have hc1 := HC.out _ hb1
            go_wp2_with fail
            refine (C2.out _ hB1).mono ?_
            rintro e w2 ⟨rfl, hb2⟩
            have hB2 := then_ hB1 hb2 hB1.size
            go_wp2_with fail
            go_ret
            exact ⟨by rw [HQ.out]; rfl, hB2⟩
          · have HQ := hide (HN.out (by rw [HW.out, ht]; simp))
            have ht2 : (bits .andNot .i64 ((n : Int) % 32) (m : Int) != 0) = false := by rw [bne, ht]; rfl
            clear ht
            go_wp2_with fail
            refine C1.mono ?_
            rintro e w1 ⟨rfl, hb1⟩
            have hB1 := then_ hb hb1 hb.size
            have hc1 := HC.out _ hb1
            go_wp2_with fail
            refine (C2.out _ hB1).mono ?_
            rintro e w2 ⟨rfl, hb2⟩
            have hB2 := then_ hB1 hb2 hB1.size
            go_wp2_with fail
            exact ⟨⟨k + 1, by omega, by go_num, hB2, HQ.out⟩, by simp [intOf]; omega⟩
    · have HQ := hide (HALL.out (by omega) fun j hj => HAL.out j hj (by omega))
      go_wp2_with fail
      go_ret
      exact ⟨by rw [HQ.out]; rfl, hb⟩
end Go.Proofs.YtlhhdpjnoainiabDoor
