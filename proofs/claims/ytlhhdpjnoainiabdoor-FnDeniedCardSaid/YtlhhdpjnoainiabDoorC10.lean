/- What the caps of policies for a path are, in the program and in its reference; each contract says for which arguments. -/
import Derived.Test.YtlhhdpjnoainiabDoorC8
import Derived.Test.YtlhhdpjnoainiabDoorCP
namespace Go.Proofs.YtlhhdpjnoainiabDoor
open Go.RowKit
set_option maxRecDepth 100000
set_option maxHeartbeats 400000
/-- the caps of the best rule -/
def rcN (rs : List Rl) (p : ByteArray) : Nat := (ruleA rs p rs.length).1.2.toNat
theorem rcN_int {nm : ByteArray} {rs : List Rl} {p : ByteArray} (hp : polB nm rs = true) : (ruleA rs p rs.length).1.2 = (rcN rs p : Int) ∧ rcN rs p < 64 := by
  unfold rcN
  cases hf : (ruleA rs p rs.length).2
  · rw [ruleA_none rs p _ (Nat.le_refl _) hf]; exact ⟨rfl, by decide⟩
  · have := pol_caps hp (ruleA_mem rs p _ (Nat.le_refl _) hf)
    omega
def capF (ps : List Pl) (p : ByteArray) (k : Nat) : Nat := (ps.take k).foldl (fun a x => a ||| rcN x.2 p) 0
theorem capF_succ {ps : List Pl} {p : ByteArray} {k : Nat} (h : k < ps.length) : capF ps p (k + 1) = capF ps p k ||| rcN ps[k].2 p := by
  unfold capF
  rw [List.take_succ_eq_append_getElem h, List.foldl_append]; rfl
theorem capF_lt {ps : List Pl} {p : ByteArray} : ∀ k, k ≤ ps.length → (∀ j (hj : j < ps.length), j < k → polB ps[j].1 ps[j].2 = true) → capF ps p k < 64
  | 0, _, _ => by simp [capF]
  | k + 1, hk, h => by
    have hl : k < ps.length := by omega
    rw [capF_succ hl]
    exact Nat.or_lt_two_pow (n := 6) (capF_lt k (by omega) fun j hj hjk => h j hj (by omega)) (rcN_int (h k hl (by omega))).2
def allPol (ps : List Pl) : Bool := ps.all fun x => polB x.1 x.2
theorem allPol_bad {ps : List Pl} {k : Nat} (h : k < ps.length) (hb : polB ps[k].1 ps[k].2 = false) : allPol ps = false := by
  cases e : allPol ps with
  | false => rfl
  | true =>
    have := List.all_eq_true.1 e ps[k] (List.getElem_mem h)
    rw [hb] at this; cases this
theorem allPol_all {ps : List Pl} (h : ∀ j (hj : j < ps.length), polB ps[j].1 ps[j].2 = true) : allPol ps = true := by
  unfold allPol
  rw [List.all_eq_true]
  intro x hx
  obtain ⟨j, hj, rfl⟩ := List.getElem_of_mem hx
  exact h j hj
def denyN (n : Nat) : Nat := if n < 32 then n else 32
def capsR (ps : List Pl) (p : ByteArray) : Int := if decide (ps.length ≤ 10) && (pathB p && allPol ps) then (denyN (capF ps p ps.length) : Int) else -1
theorem and32 : ∀ n, n < 64 → (n &&& 32 = 0 ↔ n < 32) := by decide
theorem and32_t (n : Nat) (hn : n < 64) : (bits .and .i64 (n : Int) 32 == 0) = decide (n < 32) := by
  have h := i64_and_nat n 32 (by omega) (by omega)
  rw [show bits .and .i64 (n : Int) 32 = ((n &&& 32 : Nat) : Int) from h, Bool.eq_iff_iff, beq_iff_eq, decide_eq_true_eq, ← and32 n hn]
  omega
theorem capsOf_c (A : Option Addr) (c : Nat) (ps : List Pl) (p : ByteArray) (w : World) (hg : GM w) (hr : PlR w w.heap.size A ps.length ps) (hz : ∀ x ∈ ps, ∀ y ∈ x.2, y.1.size < 4294967281) (hp : p.size < 4294967281) :
    Calls Tryd.prog 73 #[.slice A ps.length c, .string p] w (RetV (.int .i64 (capsR ps p)) w) := by
  have hn := hr.bd
  have HR : Hid (capsR ps p = if decide (ps.length ≤ 10) && (pathB p && allPol ps) then (denyN (capF ps p ps.length) : Int) else -1) := rfl
  generalize capsR ps p = R at HR ⊢
  by_cases h10 : 10 < ps.length
  · have HQ : Hid (R = -1) := by show R = _; rw [HR.out, decide_eq_false (by omega)]; rfl
    go_enter Tryd.func73, Tryd.ntmps73
    go_wp2_with fail
    go_ret
    exact ⟨by rw [HQ.out]; rfl, Below.refl _ _⟩
  have C2 := hide fun (W : World) (hb : Below w.heap.size w W) => isPath_c p W (hg.up hb) hp
  cases hpa : pathB p
  · have HQ : Hid (R = -1) := by show R = _; rw [HR.out, hpa]; simp
    rw [hpa] at C2
    clear hpa
    go_enter Tryd.func73, Tryd.ntmps73
    go_wp2_with fail
    refine (C2.out _ (Below.refl _ _)).mono ?_
    rintro e w1 ⟨rfl, hb1⟩
    go_wp2_with fail
    go_ret
    exact ⟨by rw [HQ.out]; rfl, hb1⟩
  have HBAD : Hid (∀ k (hk : k < ps.length), polB ps[k].1 ps[k].2 = false → R = -1) := fun k hk h => by rw [HR.out, allPol_bad hk h]; simp
  have HEND : Hid ((∀ k (hk : k < ps.length), polB ps[k].1 ps[k].2 = true) → R = (denyN (capF ps p ps.length) : Int)) := fun h => by
    rw [HR.out, decide_eq_true (show ps.length ≤ 10 from by omega), hpa, allPol_all h]; rfl
  rw [hpa] at C2
  clear hpa HR
  go_enter Tryd.func73, Tryd.ntmps73
  go_wp2_with fail
  refine (C2.out _ (Below.refl _ _)).mono ?_
  rintro e w1 ⟨rfl, hb1⟩
  go_wp2_with fail
  go_loopw [5, 7, 8, 9, 20] (fun cv _ _ _ iv wr => ∃ k : Nat, k ≤ ps.length ∧ iv = .int .i64 k ∧ cv = .int .i64 ((capF ps p k : Nat) : Int) ∧ Below w.heap.size w wr ∧ ∀ j (hj : j < ps.length), j < k → polB ps[j].1 ps[j].2 = true) (fun _ _ _ _ iv _ => ps.length - (intOf iv).toNat)
  case atStart => exact ⟨0, by omega, rfl, rfl, hb1, fun j _ hj => by omega⟩
  case round =>
    obtain ⟨k, hk, rfl, rfl, hb, hall⟩ := hrel
    have HAL := hide hall
    have hcl := capF_lt (p := p) k hk hall
    clear hall
    by_cases hlt : k < ps.length
    · obtain ⟨b, off, rfl, hblt, hl, Ak, ck, hc0, hc1, hrk⟩ := (hr.up hb).at_ hlt
      have hzk := hz _ (List.getElem_mem hl)
      have hbs := hb.size
      have hbA : Below w.heap.size w (wr.alloc (.cells #[.string ps[k].1, .slice Ak ps[k].2.length ck] 38)) := hb.alloc hb.size _
      have hrA : Rd (wr.alloc (.cells #[.string ps[k].1, .slice Ak ps[k].2.length ck] 38)) (wr.alloc (.cells #[.string ps[k].1, .slice Ak ps[k].2.length ck] 38)).heap.size 2 Ak ps[k].2.length (rC ps[k].2) := hrk.up ((Below.refl _ _).alloc (Nat.le_refl _) _)
      have C3 := isPolicy_c ps[k].1 Ak ck ps[k].2 _ (hg.up hbA) hrA hzk
      have L := Blk.new wr 38 #[.string ps[k].1, .slice Ak ps[k].2.length ck]
      cases hpo : polB ps[k].1 ps[k].2
      · have HQ := hide (HBAD.out k hl hpo)
        rw [hpo] at C3
        clear hpo hrk hrA L hzk
        go_wp2_with fail
        refine C3.mono ?_
        rintro e w3 ⟨rfl, hb3⟩
        have hB3 := then_ hbA hb3 hbA.size
        go_wp2_with fail
        go_ret
        exact ⟨by rw [HQ.out]; rfl, hB3⟩
      · obtain ⟨hx0, hx64⟩ := rcN_int (p := p) hpo
        have HS := hide (capF_succ (p := p) hl)
        have HN : Hid (∀ j (hj : j < ps.length), j < k + 1 → polB ps[j].1 ps[j].2 = true) := fun j hj hjk => by
          by_cases e : j = k
          · subst e; exact hpo
          · exact HAL.out j hj (by omega)
        have C4 := hide fun (W : World) (hb : Below w.heap.size w W) (h : Rd W W.heap.size 2 Ak ps[k].2.length (rC ps[k].2)) => ruleFor_c ps[k].1 Ak ck ps[k].2 p W (hg.up hb) h hzk hp
        have HOR := hide (i64_or_nat (capF ps p k) (rcN ps[k].2 p) (by omega) (by omega))
        rw [hpo] at C3
        generalize ruleA ps[k].2 p ps[k].2.length = st at C4 hx0
        obtain ⟨⟨g0, x0⟩, fd⟩ := st
        have hx0' : x0 = (rcN ps[k].2 p : Int) := hx0
        subst hx0'
        have HRA := hide hrA
        generalize rcN ps[k].2 p = rn at C4 HS HOR hx64
        generalize capF ps p k = cn at HS HOR hcl ⊢
        clear hpo hrk hrA hzk hx0
        go_wp2_with fail
        refine C3.mono ?_
        rintro e w3 ⟨rfl, hb3⟩
        have hB3 := then_ hbA hb3 hbA.size
        obtain ⟨L, qL, _, _⟩ := L.step hb3
        have hr3 := HRA.out.up hb3
        clear hb3 L
        go_wp2_with fail
        refine (C4.out _ hB3 hr3).mono ?_
        rintro e w4 ⟨rfl, hb4⟩
        have hB4 := then_ hB3 hb4 hB3.size
        have hor := HOR.out
        clear hb4 hr3 hB3 qL hbA hb
        have HB4 := hide hB4
        have hs4 := hB4.size
        clear hB4
        go_wp2_with fail
        refine ⟨⟨k + 1, by omega, by go_num, int_eq ?_, HB4.out.alloc hs4 _, HN.out⟩, by simp [intOf]; omega⟩
        rw [HS.out]
    · have HE := hide (HEND.out fun j hj => HAL.out j hj (by omega))
      obtain rfl : k = ps.length := by omega
      have ht := and32_t _ hcl
      have HD : Hid (denyN (capF ps p ps.length) = if capF ps p ps.length < 32 then capF ps p ps.length else 32) := rfl
      generalize capF ps p ps.length = cn at hcl ht HE HD ⊢
      by_cases h32 : cn < 32
      · have HQ : Hid (R = (cn : Int)) := by show R = _; rw [HE.out, HD.out, if_pos h32]
        rw [decide_eq_true h32] at ht
        go_wp2_with fail
        go_ret
        exact ⟨by rw [HQ.out]; rfl, hb⟩
      · have HQ : Hid (R = 32) := by show R = _; rw [HE.out, HD.out, if_neg h32]; rfl
        rw [decide_eq_false h32] at ht
        go_wp2_with fail
        go_ret
        exact ⟨by rw [HQ.out]; rfl, hb⟩
theorem CapsOf_i (A : Option Addr) (c : Nat) (ps : List Pl) (p : ByteArray) (w : World) (hg : GM w) (hr : PlR w w.heap.size A ps.length ps) (hz : ∀ x ∈ ps, ∀ y ∈ x.2, y.1.size < 4294967281) (hp : p.size < 4294967281) :
    Calls Tryd.prog 35 #[.slice A ps.length c, .string p] w (RetV (.int .i64 (capsR ps p)) w) := by
  have C := capsOf_c A c ps p w hg hr hz hp
  generalize capsR ps p = R at C ⊢
  go_enter Tryd.func35, Tryd.ntmps35
  go_wp2_with fail
  refine C.mono ?_
  rintro e w1 ⟨rfl, hb1⟩
  go_wp2_with fail
  go_ret
  exact ⟨rfl, hb1⟩
theorem CapsOf_s (A : Option Addr) (c : Nat) (ps : List Pl) (p : ByteArray) (w : World) (hr : PlR w w.heap.size A ps.length ps) (hz : ∀ x ∈ ps, ∀ y ∈ x.2, y.1.size < 4294967281) (hnm : ∀ x ∈ ps, x.1.size ≤ 9223372036854775806) (hp : p.size < 4294967281) :
    Calls Tryd.prog 33 #[.slice A ps.length c, .string p] w (RetV (.int .i64 (capsR ps p)) w) := by
  have hn := hr.bd
  have HR : Hid (capsR ps p = if decide (ps.length ≤ 10) && (pathB p && allPol ps) then (denyN (capF ps p ps.length) : Int) else -1) := rfl
  generalize capsR ps p = R at HR ⊢
  by_cases h10 : 10 < ps.length
  · have HQ : Hid (R = -1) := by show R = _; rw [HR.out, decide_eq_false (by omega)]; rfl
    go_enter Tryd.func33, Tryd.ntmps33
    go_wp2_with fail
    go_ret
    exact ⟨by rw [HQ.out]; rfl, Below.refl _ _⟩
  have C2 := PathOk_s p w hp
  cases hpa : pathB p
  · have HQ : Hid (R = -1) := by show R = _; rw [HR.out, hpa]; simp
    rw [hpa] at C2
    clear hpa
    go_enter Tryd.func33, Tryd.ntmps33
    go_wp2_with fail
    refine C2.mono ?_
    rintro e w1 ⟨rfl, hb1⟩
    go_wp2_with fail
    go_ret
    exact ⟨by rw [HQ.out]; rfl, hb1⟩
  have HBAD : Hid (∀ k (hk : k < ps.length), polB ps[k].1 ps[k].2 = false → R = -1) := fun k hk h => by rw [HR.out, allPol_bad hk h]; simp
  have HEND : Hid ((∀ k (hk : k < ps.length), polB ps[k].1 ps[k].2 = true) → R = (denyN (capF ps p ps.length) : Int)) := fun h => by
    rw [HR.out, decide_eq_true (show ps.length ≤ 10 from by omega), hpa, allPol_all h]; rfl
  have HRF : Hid (∀ k (hk : k < ps.length), polB ps[k].1 ps[k].2 = true → rfA ps[k].1 ps[k].2 p = ruleA ps[k].2 p ps[k].2.length) := fun k hk h => by
    unfold rfA; rw [h, hpa]; rfl
  rw [hpa] at C2
  clear hpa HR
  go_enter Tryd.func33, Tryd.ntmps33
  go_wp2_with fail
  refine C2.mono ?_
  rintro e w1 ⟨rfl, hb1⟩
  go_wp2_with fail
  go_loopw [5, 6, 7, 8] (fun cv iv _ _ wr => ∃ k : Nat, k ≤ ps.length ∧ iv = .int .i64 k ∧ cv = .int .i64 ((capF ps p k : Nat) : Int) ∧ Below w.heap.size w wr ∧ ∀ j (hj : j < ps.length), j < k → polB ps[j].1 ps[j].2 = true) (fun _ iv _ _ _ => ps.length - (intOf iv).toNat)
  case atStart => exact ⟨0, by omega, rfl, rfl, hb1, fun j _ hj => by omega⟩
  case round =>
    obtain ⟨k, hk, rfl, rfl, hb, hall⟩ := hrel
    have HAL := hide hall
    have hcl := capF_lt (p := p) k hk hall
    clear hall
    by_cases hlt : k < ps.length
    · obtain ⟨b, off, rfl, hblt, hl, Ak, ck, hc0, hc1, hrk⟩ := (hr.up hb).at_ hlt
      have hzk := hz _ (List.getElem_mem hl)
      have hnk := hnm _ (List.getElem_mem hl)
      have C3 := PolicyOk_s ps[k].1 Ak ck ps[k].2 wr hrk hzk hnk
      cases hpo : polB ps[k].1 ps[k].2
      · have HQ := hide (HBAD.out k hl hpo)
        rw [hpo] at C3
        clear hpo hrk hzk
        go_wp2_with fail
        refine C3.mono ?_
        rintro e w3 ⟨rfl, hb3⟩
        have hB3 := then_ hb hb3 hb.size
        go_wp2_with fail
        go_ret
        exact ⟨by rw [HQ.out]; rfl, hB3⟩
      · obtain ⟨hx0, hx64⟩ := rcN_int (p := p) hpo
        have HS := hide (capF_succ (p := p) hl)
        have HN : Hid (∀ j (hj : j < ps.length), j < k + 1 → polB ps[j].1 ps[j].2 = true) := fun j hj hjk => by
          by_cases e : j = k
          · subst e; exact hpo
          · exact HAL.out j hj (by omega)
        have C4 := hide fun (W : World) (h : Rd W W.heap.size 2 Ak ps[k].2.length (rC ps[k].2)) => RuleFor_s ps[k].1 Ak ck ps[k].2 p W h hzk hp hnk
        rw [HRF.out k hl hpo] at C4
        have HOR := hide (i64_or_nat (capF ps p k) (rcN ps[k].2 p) (by omega) (by omega))
        rw [hpo] at C3
        generalize ruleA ps[k].2 p ps[k].2.length = st at C4 hx0
        obtain ⟨⟨g0, x0⟩, fd⟩ := st
        have hx0' : x0 = (rcN ps[k].2 p : Int) := hx0
        subst hx0'
        have HRA := hide hrk
        generalize rcN ps[k].2 p = rn at C4 HS HOR hx64
        generalize capF ps p k = cn at HS HOR hcl ⊢
        clear hpo hrk hzk hx0
        go_wp2_with fail
        refine C3.mono ?_
        rintro e w3 ⟨rfl, hb3⟩
        have hB3 := then_ hb hb3 hb.size
        have hr3 := HRA.out.up hb3
        have d0 := cell_oldB hc0 hb3 hblt
        have d1 := cell_oldB hc1 hb3 hblt
        clear hb3
        go_wp2_with fail
        refine (C4.out _ hr3).mono ?_
        rintro e w4 ⟨rfl, hb4⟩
        have hB4 := then_ hB3 hb4 hB3.size
        have hor := HOR.out
        clear hb4 hr3 hB3 hb d0 d1
        have HB4 := hide hB4
        have hs4 := hB4.size
        clear hB4
        go_wp2_with fail
        refine ⟨⟨k + 1, by omega, by go_num, int_eq ?_, HB4.out.alloc hs4 _, HN.out⟩, by simp [intOf]; omega⟩
        rw [HS.out]
    · have HE := hide (HEND.out fun j hj => HAL.out j hj (by omega))
      obtain rfl : k = ps.length := by omega
      have HD : Hid (denyN (capF ps p ps.length) = if capF ps p ps.length < 32 then capF ps p ps.length else 32) := rfl
      generalize capF ps p ps.length = cn at hcl HE HD ⊢
      by_cases h32 : cn < 32
      · have HQ : Hid (R = (cn : Int)) := by show R = _; rw [HE.out, HD.out, if_pos h32]
        go_wp2_with fail
        go_ret
        exact ⟨by rw [HQ.out]; rfl, hb⟩
      · have HQ : Hid (R = 32) := by show R = _; rw [HE.out, HD.out, if_neg h32]; rfl
        go_wp2_with fail
        go_ret
        exact ⟨by rw [HQ.out]; rfl, hb⟩
end Go.Proofs.YtlhhdpjnoainiabDoor
