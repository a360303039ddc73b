/- The test of long inputs, and inputs turned: what they give; each contract says for which arguments. -/
import Derived.Test.YtmjmjloiblbhcaaDoorBE2
namespace Go.Proofs.YtmjmjloiblbhcaaDoor
open Go.RowKit
set_option maxRecDepth 100000
set_option maxHeartbeats 1000000
/-- some bytes, in new memory -/
def RetC (w : World) (en : Ending) (w' : World) : Prop := ∃ (A : Option Addr) (n c : Nat) (l : List UInt8), en = .returned (.slice A n c) ∧ n ≤ 1048576 ∧ Rd w' w'.heap.size 1 A n (bC l) ∧ Below w.heap.size w w'
theorem big_c (A : Option Addr) (n c : Nat) (w : World) (hn : n ≤ 9223372036854775807) : Calls Tryd.prog 6 #[.slice A n c] w (Pure (.bool (decide (1048576 < n))) w) := by
  have e : Hid (decide (1048576 < n) = decide (1048576 < n)) := rfl
  by_cases h : 1048576 < n
  all_goals
    go_enter Tryd.func6, Tryd.ntmps6
    go_wp2_with fail
    go_ret
    exact ⟨by simp; omega, rfl⟩
theorem info_b : (Tryd.prog.info? 5).map (fun i => (i.zero, i.size, i.bytes)) = some (some (.int .u8 0), 1, 1) := by kernel_rfl
theorem alt_c (A : Option Addr) (n c : Nat) (l : List UInt8) (k : UInt8) (w : World) (hr : Rd w w.heap.size 1 A n (bC l)) (hn : n ≤ 1048576) : Calls Tryd.prog 24 #[.slice A n c, .int .i64 (k.toNat : Int)] w (RetC w) := by
  have hk8 := UInt8.toNat_lt k
  go_enter Tryd.func24, Tryd.ntmps24
  go_wp2_with fail
  go_loopw [5, 6] (fun v i wr => ∃ (j : Nat) (A' : Option Addr) (c' : Nat) (m : List UInt8), j ≤ 3000 ∧ i = .int .i64 ((j : Nat) : Int) ∧ v = .slice A' (1 + j) c' ∧ 1 + j ≤ c' ∧ wr.ownsRow w.heap.size 5 1 (.slice A' (1 + j) c') (1 + j) (bC m) ∧ Below w.heap.size w wr) (fun _ i _ => 3000 - (intOf i).toNat)
  case atStart => exact ⟨0, _, _, [k], by omega, rfl, rfl, by omega, World.ownsRow_lit w #[.int .u8 (k.toNat : Int)] 1 (Nat.le_refl _) (by decide) rfl, (Below.refl _ _).alloc (Nat.le_refl _) _⟩
  case round =>
    obtain ⟨j, A', c', m, hj, rfl, rfl, hkc, hown, hb⟩ := hrel
    have HB := hide hb
    have HO := hide hown
    have hsz := hb.size
    by_cases hlt : j < n
    · have hr' := hr.below hb (Nat.le_refl _)
      obtain ⟨b, off, rfl, hblt, hl, hc⟩ := hr'.byte hlt
      clear hr' hb hown
      by_cases h3 : j < 3000
      · go_wp2_with (at_builtin; refine wpList_push wr rfl (.tmp 20) (.tmp 25) 22 rfl w.heap.size 5 _ 1 1 Tryd.underlying22 info_b rfl (by omega) A' (1 + j) c' _ [.int .u8 (l[j].toNat : Int)] rfl HO.out rfl rfl (by simp [Value.oneCell']) (by omega) (by omega) hsz ?_; intro A'' c'' w1 hc1 hown1 hg1 _)
        exact ⟨⟨j + 1, A'', c'', m ++ [l[j]], by omega, by go_num, rfl, hc1, by rw [bC_append]; exact hown1, HB.out.trans (grown_below HO.out hg1 hsz)⟩, by simp [intOf]; omega⟩
      · go_wp2_with fail
        go_ret
        exact ⟨_, _, _, m, rfl, by omega, own_rd HO.out, HB.out⟩
    · clear hb hown
      go_wp2_with fail
      go_ret
      exact ⟨_, _, _, m, rfl, by omega, own_rd HO.out, HB.out⟩
end Go.Proofs.YtmjmjloiblbhcaaDoor
