/- Slices of shares: equality, marks, copies. -/
import Derived.Test.YtgkjgaijjihmgaaA6
import Derived.Test.YtgkjgaijjihmgaaMem7
import Derived.Deep.RegionHeld3
namespace Go.Proofs.Ytgkjgaijjihmgaa
open Go.RowKit Gf
set_option maxRecDepth 100000
set_option maxHeartbeats 400000
theorem info40 : (Try.prog.info? 31).map (fun i => (i.zero, i.size, i.bytes)) = some (some (.agg #[.int .i64 0, .slice none 0 0]), 2, 32) := by kernel_rfl
theorem eqShareS_c (A A' : Option Addr) (n c c' : Nat) (ss : List Sh) (w : World) (hr : ShR w w.heap.size A n ss) (hr' : ShR w w.heap.size A' n ss) :
    Calls Try.prog 65 #[.slice A n c, .slice A' n c'] w (RetV (.bool true) w) := by
  have hn := hr.bd
  go_enter Try.func65, Try.ntmps65
  go_wp2_with fail
  go_loopw [5] (fun i wr => ∃ k : Nat, k ≤ n ∧ i = .int .i64 k ∧ Below w.heap.size w wr) (fun i _ => n - (intOf i).toNat)
  case atStart => exact ⟨0, by omega, rfl, Below.refl _ _⟩
  case round =>
    obtain ⟨k, hk, rfl, hB⟩ := hrel
    by_cases hlt : k < n
    · obtain ⟨b, off, rfl, hblt, hl, Ak, ck, hx, hd, hrd⟩ := (hr.up hB).at_ hlt
      obtain ⟨b', off', rfl, hblt', hl', Ak', ck', hx', hd', hrd'⟩ := (hr'.up hB).at_ hlt
      have k0 : (0 : Int) ≤ (k : Int) := by omega
      have k1 : (k : Int) < (n : Int) := by omega
      have HR := hide hrd
      have HR' := hide hrd'
      clear hrd hrd'
      go_wp2_with fail
      first | go_region_held3 (fun w' => w'.cell? ⟨b, off + k * 2, none⟩ = some (.int .i64 ss[k].1) ∧ w'.cell? ⟨b, off + k * 2 + 1, none⟩ = some (.slice Ak ss[k].2.length ck) ∧ w'.cell? ⟨b', off' + k * 2, none⟩ = some (.int .i64 ss[k].1) ∧ w'.cell? ⟨b', off' + k * 2 + 1, none⟩ = some (.slice Ak' ss[k].2.length ck')) (first | exact ⟨hx, hd, hx', hd'⟩ | exact ⟨(hcl _ _ hblt).trans hx, (hcl _ _ hblt).trans hd, (hcl _ _ hblt').trans hx', (hcl _ _ hblt').trans hd'⟩) (first | (go_at_call 25; refine (eqShare_c _ Ak Ak' _ ck ck' ss[k].2 _ HR.out.drew HR'.out.drew).mono ?_; rintro e w1 ⟨rfl, hb1⟩; obtain ⟨hcl, _⟩ := bcell hb1)) | fail
      have hB1 := then_ hB.drew hb1 hB.size
      clear hcl hb1
      go_wp2_with fail
      exact ⟨⟨k + 1, by omega, by go_num, hB1⟩, by simp [intOf]; omega⟩
    · go_wp2_with fail
      go_ret
      exact ⟨rfl, hB⟩
theorem heldShareS_c (A : Option Addr) (n c : Nat) (ss : List Sh) (w : World) (hi : Nat) (k0 : Int) (hr : ShR w hi A n (markS k0 ss)) (hhi : hi ≤ w.heap.size) (hk0 : 0 ≤ k0) (hk1 : k0 + cntS ss ≤ 1099511627776) :
    Calls Try.prog 67 #[.slice A n c, .int .i64 k0] w (RetV (.int .i64 (k0 + cntS ss)) w) := by
  have hn := hr.bd
  have hln : ss.length = n := by have := hr.1; rwa [markS_length] at this
  have HLN := hide hln
  clear hln
  go_enter Try.func67, Try.ntmps67
  go_wp2_with fail
  go_loopw [1, 5] (fun v i wr => ∃ k : Nat, k ≤ n ∧ i = .int .i64 k ∧ v = .int .i64 (k0 + cntS (ss.take k)) ∧ Below w.heap.size w wr) (fun _ i _ => n - (intOf i).toNat)
  case atStart => exact ⟨0, by omega, rfl, by simp [cntS], Below.refl _ _⟩
  case round =>
    obtain ⟨k, hk, rfl, rfl, hB⟩ := hrel
    have hle := cntS_take_le ss k
    by_cases hlt : k < n
    · obtain ⟨b, off, rfl, hblt, hl, Ak, ck, hx, hd, hrd⟩ := (hr.below hB hhi).at_ hlt
      have hls : k < ss.length := by rw [HLN.out]; exact hlt
      have hg := markS_get k0 hls
      have hsu := cntS_take_succ hls
      have hle2 := cntS_take_le ss (k + 1)
      rw [hsu] at hle2
      have HS := hide hsu
      simp only [hg, markB_length] at hx hd hrd
      have hh := hB.size
      clear hg hsu
      go_wp2_with fail
      refine (heldByteS_c Ak _ ck _ hi _ hrd (by omega) (by omega) (by omega)).mono ?_
      rintro e w1 ⟨rfl, hb1⟩
      have hB1 := then_ hB hb1 hB.size
      clear hb1 hrd hx hd
      go_wp2_with fail
      exact ⟨⟨k + 1, by omega, by go_num, by rw [HS.out]; exact int_eq (by omega), hB1⟩, by simp [intOf]; omega⟩
    · have HE : Hid (ss.take k = ss) := List.take_of_length_le (by rw [HLN.out]; omega)
      rw [HE.out]
      go_wp2_with fail
      go_ret
      exact ⟨rfl, hB⟩
theorem markByteS_z (A : Option Addr) (c : Nat) (w : World) (k : Int) :
    Calls Try.prog 28 #[.slice A 0 c, .int .i64 k] w (Pure (.int .i64 k) w) := by
  go_enter Try.func28, Try.ntmps28
  go_wp2_with fail
  go_loop [1, 5] (fun v i => v = .int .i64 k ∧ i = .int .i64 0) (fun _ _ => 0)
  case atStart => exact ⟨rfl, rfl⟩
  case round =>
    obtain ⟨rfl, rfl⟩ := hrel
    go_wp2_with fail
    go_ret
    exact ⟨rfl, rfl⟩
theorem markByteS_a (A : Option Addr) (n c : Nat) (l : List UInt8) (w : World) (lo hi : Nat) (k : Int) (hr : Ow w lo hi 5 1 A n (bC l)) (hk0 : 0 ≤ k) (hk1 : k ≤ 1099511627776) (hn : n ≤ 1099511627776) :
    Calls Try.prog 28 #[.slice A n c, .int .i64 k] w (fun e w' => e = .returned (.int .i64 (k + n)) ∧ Ow w' lo hi 5 1 A n (bC (markB k n)) ∧ w.grownBy w' (if n = 0 then none else A.map (·.block)) ∧ Chg lo hi w w') := by
  by_cases h0 : n = 0
  · subst h0
    refine (markByteS_z A c w k).mono ?_
    rintro e w' ⟨rfl, rfl⟩
    exact ⟨by simp, Ow.nil _ _ _ _ _ _, World.grownBy.refl _ _, Chg.refl _ _ _⟩
  · rw [if_neg h0]
    exact markByteS_c A n c l w lo hi k hr hk0 hk1 hn
/-- a number, shares marked, the rest as it was -/
def MarkSP (v : Int) (lo hi e : Nat) (A : Option Addr) (n : Nat) (hs : List (Option Addr × Nat)) (ss : List Sh) (w : World) (en : Ending) (w' : World) : Prop := en = .returned (.int .i64 v) ∧ ShW w' lo hi e A n hs ss ∧ Mk lo hi w w'
theorem markShareS_m (A : Option Addr) (n c : Nat) (hs : List (Option Addr × Nat)) (ss : List Sh) (w : World) (lo hi : Nat) (k0 : Int) (hr : ShW w lo hi 31 A n hs ss) (hhi : hi ≤ w.heap.size) (hk0 : 0 ≤ k0) (hk1 : k0 + cntS ss ≤ 1099511627776) :
    Calls Try.prog 66 #[.slice A n c, .int .i64 k0] w (MarkSP (k0 + cntS ss) lo hi 31 A n hs (markS k0 ss) w) := by
  have hn := hr.row.bd
  have hln := hr.ssn
  have HLN := hide hln
  clear hln
  go_enter Try.func66, Try.ntmps66
  go_wp2_with fail
  go_loopw [1, 5] (fun v i wr => ∃ k : Nat, k ≤ n ∧ i = .int .i64 k ∧ v = .int .i64 (k0 + cntS (ss.take k)) ∧ ShW wr lo hi 31 A n hs (mid k0 ss k) ∧ Mk lo hi w wr) (fun _ i _ => n - (intOf i).toNat)
  case atStart => exact ⟨0, by omega, rfl, by simp [cntS], by rw [mid_zero]; exact hr, Mk.of_below (Below.refl _ _)⟩
  case round =>
    obtain ⟨k, hk, rfl, rfl, hW, hM⟩ := hrel
    have hle := cntS_take_le ss k
    by_cases hlt : k < n
    · have hls : k < ss.length := by rw [HLN.out]; exact hlt
      have hml : k < (mid k0 ss k).length := by rw [mid_length]; exact hls
      obtain ⟨b, off, hA, hlb, hbh, hcell, hfr⟩ := hW.row.at_ (j := k * 2) (by rw [shC_length hW.len, hW.ssn]; omega)
      obtain ⟨b', off', hA', _, _, hcell1, _⟩ := hW.row.at_ (j := k * 2 + 1) (by rw [shC_length hW.len, hW.ssn]; omega)
      rw [hA] at hA'
      injection hA' with hA'
      injection hA' with e1 e2
      subst e1; subst e2
      subst hA
      have hg2 := (shC_get hW.len hml).2
      rw [List.getElem?_eq_getElem (by rw [shC_length hW.len, hW.ssn]; omega)] at hg2
      injection hg2 with hg2
      rw [hg2] at hcell1
      have hmg := mid_get k0 hls
      simp only [hmg] at hcell1
      have hsu := cntS_take_succ hls
      have hle2 := cntS_take_le ss (k + 1)
      rw [hsu] at hle2
      have HS := hide hsu
      have hX := hW.setX (by omega) hlt (k0 + cntS (ss.take k))
      simp only [hmg] at hX
      have HMS := hide (mid_set k0 hls)
      have HX := hide hX
      have HM := hide hM
      have hsz := hM.size
      have hD := hX.data k (by rw [List.length_set]; exact hml)
      obtain ⟨Ak, ck, hkk⟩ : ∃ Ak ck, ∀ h, hs[k]'h = (Ak, ck) := ⟨(hs[k]'(by rw [hW.len]; exact hml)).1, (hs[k]'(by rw [hW.len]; exact hml)).2, fun h => rfl⟩
      simp only [List.getElem_set_self, hkk] at hD hcell1
      have HKK := hide hkk
      have HMG := hide hmg
      have hlb2 := hD.bd
      have HD := hide hD
      obtain ⟨v0, hcell0⟩ : ∃ u, wr.cell? ⟨b, off + k * 2, none⟩ = some u := ⟨_, hcell⟩
      clear hcell hW hM hX hg2 hmg hsu hkk hD
      rw [← Nat.add_assoc] at hcell1
      go_wp2_with fail
      refine (markByteS_a Ak _ ck _ _ lo hi _ HD.out (by omega) (by omega) (by omega)).mono ?_
      rintro e w1 ⟨rfl, ho1, hg1, hch1⟩
      have hW1 := HX.out.setDD (by omega) hml Ak ck HKK.out (markB (k0 + cntS (ss.take k) + 1) ss[k].2.length) (by rw [markB_length]) (by rw [World.size_setCell]; omega) ho1 hg1
      rw [HMS.out] at hW1
      have hM1 : Mk lo hi w w1 := HM.out.trans (Mk.of_chg (((Chg.refl lo hi wr).setCell (p := ⟨b, off + k * 2, none⟩) hlb hbh _).trans hch1))
      clear hg1 hch1 ho1
      go_wp2_with fail
      exact ⟨⟨k + 1, by omega, by go_num, by rw [HS.out]; exact int_eq (by omega), hW1, hM1⟩, by simp [intOf]; omega⟩
    · have HE : Hid (ss.take k = ss) := List.take_of_length_le (by rw [HLN.out]; omega)
      have HM : Hid (mid k0 ss k = markS k0 ss) := by
        have := mid_all k0 ss
        rw [show k = ss.length from by rw [HLN.out]; omega]
        exact this
      rw [HM.out] at hW
      rw [HE.out]
      have H1 := hide hW
      have H2 := hide hM
      clear hW hM
      go_wp2_with fail
      go_ret
      exact ⟨rfl, H1.out, H2.out⟩
end Go.Proofs.Ytgkjgaijjihmgaa
