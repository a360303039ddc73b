/- What the laws draw: texts and pairs of texts off a code, another code; each contract says for which arguments. -/
import Derived.Test.YtlhhdpjnoainiaaDoorBD3
import Derived.Test.YtlhhdpjnoainiaaDoorB5
namespace Go.Proofs.YtlhhdpjnoainiaaDoor
open Go.RowKit
set_option maxRecDepth 100000
set_option maxHeartbeats 400000
/-- a text of at most m letters, and new memory -/
def RetS (m : Nat) (w : World) (en : Ending) (w' : World) : Prop := ∃ s : ByteArray, s.size ≤ m ∧ en = .returned (.string s) ∧ Below w.heap.size w w'
/-- two texts of at most m letters, and new memory -/
def RetSS (m : Nat) (w : World) (en : Ending) (w' : World) : Prop := ∃ s t : ByteArray, s.size ≤ m ∧ t.size ≤ m ∧ en = .returned (.tuple #[.string s, .string t]) ∧ Below w.heap.size w w'
/-- some bytes, in new memory -/
def RetC (w : World) (en : Ending) (w' : World) : Prop := ∃ (A : Option Addr) (n c : Nat) (l : List UInt8), en = .returned (.slice A n c) ∧ n ≤ 1048576 ∧ Rd w' w'.heap.size 1 A n (bC l) ∧ Below w.heap.size w w'
theorem big_c (A : Option Addr) (n c : Nat) (w : World) (hn : n ≤ 9223372036854775807) : Calls Tryd.prog 30 #[.slice A n c] w (Pure (.bool (decide (1048576 < n))) w) := by
  have e : Hid (decide (1048576 < n) = decide (1048576 < n)) := rfl
  by_cases h : 1048576 < n
  all_goals
    go_enter Tryd.func30, Tryd.ntmps30
    go_wp2_with fail
    go_ret
    exact ⟨by simp; omega, rfl⟩
theorem DrawSplitPath_c (A : Option Addr) (n c : Nat) (l : List UInt8) (w : World) (hr : Rd w w.heap.size 1 A n (bC l)) (hn : n ≤ 1048576) : Calls Tryd.prog 31 #[.slice A n c] w (RetS 200 w) := by
  go_enter Tryd.func31, Tryd.ntmps31
  go_wp2_with fail
  refine (l01New_c A n c l w hr hn).mono ?_
  rintro e w1 ⟨rfl, hc1, hb1⟩
  go_wp2_with fail
  refine (l01DrawGlob_c _ _ w1 hc1).mono ?_
  rintro e w2 ⟨s, hs, rfl, hc2, hm2⟩
  have HB := hide (hb1.trans (hm2.below2 (Nat.le_refl _) hb1.size))
  clear hc1 hb1 hc2 hm2
  go_wp2_with fail
  go_ret
  exact ⟨s, hs, rfl, HB.out⟩
theorem DrawParentPath_c (A : Option Addr) (n c : Nat) (l : List UInt8) (w : World) (hr : Rd w w.heap.size 1 A n (bC l)) (hn : n ≤ 1048576) : Calls Tryd.prog 32 #[.slice A n c] w (RetS 200 w) := by
  go_enter Tryd.func32, Tryd.ntmps32
  go_wp2_with fail
  refine (l01New_c A n c l w hr hn).mono ?_
  rintro e w1 ⟨rfl, hc1, hb1⟩
  go_wp2_with fail
  refine (l01DrawPath_c _ _ w1 hc1).mono ?_
  rintro e w2 ⟨s, hs, rfl, hc2, hm2⟩
  have HB := hide (hb1.trans (hm2.below2 (Nat.le_refl _) hb1.size))
  clear hc1 hb1 hc2 hm2
  go_wp2_with fail
  go_ret
  exact ⟨s, hs, rfl, HB.out⟩
theorem DrawCompareGlob_c (A : Option Addr) (n c : Nat) (l : List UInt8) (w : World) (hr : Rd w w.heap.size 1 A n (bC l)) (hn : n ≤ 1048576) : Calls Tryd.prog 40 #[.slice A n c] w (RetSS 200 w) := by
  go_enter Tryd.func40, Tryd.ntmps40
  go_wp2_with fail
  refine (l01New_c A n c l w hr hn).mono ?_
  rintro e w1 ⟨rfl, hc1, hb1⟩
  go_wp2_with fail
  refine (l01DrawGlob_c _ _ w1 hc1).mono ?_
  rintro e w2 ⟨s, hs, rfl, hc2, hm2⟩
  go_wp2_with fail
  refine (l01DrawGlob_c _ _ w2 hc2).mono ?_
  rintro e w3 ⟨t, ht, rfl, hc3, hm3⟩
  have HB := hide (hb1.trans ((hm2.trans hm3).below2 (Nat.le_refl _) hb1.size))
  clear hc1 hb1 hc2 hm2 hc3 hm3
  go_wp2_with fail
  refine bodyPost_ret (v := .tuple #[.string s, .string t]) (by simp [results, Tryd.results40, go_sem]) rfl ?_
  exact ⟨s, t, hs, ht, rfl, HB.out⟩
theorem DrawMatchGlob_c (A : Option Addr) (n c : Nat) (l : List UInt8) (w : World) (hr : Rd w w.heap.size 1 A n (bC l)) (hn : n ≤ 1048576) : Calls Tryd.prog 44 #[.slice A n c] w (RetSS 200 w) := by
  go_enter Tryd.func44, Tryd.ntmps44
  go_wp2_with fail
  refine (l01New_c A n c l w hr hn).mono ?_
  rintro e w1 ⟨rfl, hc1, hb1⟩
  go_wp2_with fail
  refine (l01DrawGlob_c _ _ w1 hc1).mono ?_
  rintro e w2 ⟨s, hs, rfl, hc2, hm2⟩
  go_wp2_with fail
  refine (l01DrawPath_c _ _ w2 hc2).mono ?_
  rintro e w3 ⟨t, ht, rfl, hc3, hm3⟩
  have HB := hide (hb1.trans ((hm2.trans hm3).below2 (Nat.le_refl _) hb1.size))
  clear hc1 hb1 hc2 hm2 hc3 hm3
  go_wp2_with fail
  refine bodyPost_ret (v := .tuple #[.string s, .string t]) (by simp [results, Tryd.results44, go_sem]) rfl ?_
  exact ⟨s, t, hs, ht, rfl, HB.out⟩
theorem DrawCovers_c (A : Option Addr) (n c : Nat) (l : List UInt8) (w : World) (hr : Rd w w.heap.size 1 A n (bC l)) (hn : n ≤ 1048576) : Calls Tryd.prog 43 #[.slice A n c] w (RetSS 200 w) := by
  go_enter Tryd.func43, Tryd.ntmps43
  go_wp2_with fail
  refine (l01New_c A n c l w hr hn).mono ?_
  rintro e w1 ⟨rfl, hc1, hb1⟩
  go_wp2_with fail
  refine (l01DrawGlob_c _ _ w1 hc1).mono ?_
  rintro e w2 ⟨s, hs, rfl, hc2, hm2⟩
  go_wp2_with fail
  refine (l01Once_c 3 _ _ w2 hc2 (by omega)).mono ?_
  rintro e w3 ⟨b, rfl, hc3, hm3⟩
  have HM3 := hide (hm2.trans hm3)
  have HB1 := hide hb1
  clear hc1 hb1 hc2 hm2 hm3
  cases b
  · go_wp2_with fail
    refine (l01DrawGlob_c _ _ w3 hc3).mono ?_
    rintro e w4 ⟨t, ht, rfl, hc4, hm4⟩
    have HB := hide (HB1.out.trans ((HM3.out.trans hm4).below2 (Nat.le_refl _) HB1.out.size))
    clear hc4 hm4
    go_wp2_with fail
    refine bodyPost_ret (v := .tuple #[.string s, .string t]) (by simp [results, Tryd.results43, go_sem]) rfl ?_
    exact ⟨s, t, hs, ht, rfl, HB.out⟩
  · go_wp2_with fail
    refine (l01DrawPath_c _ _ w3 hc3).mono ?_
    rintro e w4 ⟨t, ht, rfl, hc4, hm4⟩
    have HB := hide (HB1.out.trans ((HM3.out.trans hm4).below2 (Nat.le_refl _) HB1.out.size))
    clear hc4 hm4
    go_wp2_with fail
    refine bodyPost_ret (v := .tuple #[.string s, .string t]) (by simp [results, Tryd.results43, go_sem]) rfl ?_
    exact ⟨s, t, hs, ht, rfl, HB.out⟩
theorem info_b : (Tryd.prog.info? 5).map (fun i => (i.zero, i.size, i.bytes)) = some (some (.int .u8 0), 1, 1) := by kernel_rfl
theorem alt_c (A : Option Addr) (n c : Nat) (l : List UInt8) (k : UInt8) (w : World) (hr : Rd w w.heap.size 1 A n (bC l)) (hn : n ≤ 1048576) : Calls Tryd.prog 33 #[.slice A n c, .int .i64 (k.toNat : Int)] w (RetC w) := by
  have hk8 := UInt8.toNat_lt k
  go_enter Tryd.func33, Tryd.ntmps33
  go_wp2_with fail
  go_loopw [5, 6] (fun v i wr => ∃ (j : Nat) (A' : Option Addr) (c' : Nat) (m : List UInt8), j ≤ 3000 ∧ i = .int .i64 ((j : Nat) : Int) ∧ v = .slice A' (1 + j) c' ∧ 1 + j ≤ c' ∧ wr.ownsRow w.heap.size 5 1 (.slice A' (1 + j) c') (1 + j) (bC m) ∧ Below w.heap.size w wr) (fun _ i _ => 3000 - (intOf i).toNat)
  case atStart => exact ⟨0, _, _, [k], by omega, rfl, rfl, by omega, World.ownsRow_lit w #[.int .u8 (k.toNat : Int)] 1 (Nat.le_refl _) (by decide) rfl, (Below.refl _ _).alloc (Nat.le_refl _) _⟩
  case round =>
    obtain ⟨j, A', c', m, hj, rfl, rfl, hkc, hown, hb⟩ := hrel
    have HB := hide hb
    have HO := hide hown
    have hsz := hb.size
    by_cases hlt : j < n
    · have hr' := hr.below hb (Nat.le_refl _)
      obtain ⟨b, off, rfl, hblt, hl, hc⟩ := hr'.byte hlt
      clear hr' hb hown
      by_cases h3 : j < 3000
      · go_wp2_with (at_builtin; refine wpList_push wr rfl (.tmp 20) (.tmp 25) 33 rfl w.heap.size 5 _ 1 1 Tryd.underlying33 info_b rfl (by omega) A' (1 + j) c' _ [.int .u8 (l[j].toNat : Int)] rfl HO.out rfl rfl (by simp [Value.oneCell']) (by omega) (by omega) hsz ?_; intro A'' c'' w1 hc1 hown1 hg1 _)
        exact ⟨⟨j + 1, A'', c'', m ++ [l[j]], by omega, by go_num, rfl, hc1, by rw [bC_append]; exact hown1, HB.out.trans (grown_below HO.out hg1 hsz)⟩, by simp [intOf]; omega⟩
      · go_wp2_with fail
        go_ret
        exact ⟨_, _, _, m, rfl, by omega, own_rd HO.out, HB.out⟩
    · clear hb hown
      go_wp2_with fail
      go_ret
      exact ⟨_, _, _, m, rfl, by omega, own_rd HO.out, HB.out⟩
end Go.Proofs.YtlhhdpjnoainiaaDoor
