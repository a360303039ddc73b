/- What comparing and matching of globs is, and what the program's MatchGlob gives; each contract says for which arguments. -/
import Derived.Test.YtlhhdpjnoainiabDoorB3
import Derived.Test.YtlhhdpjnoainiabDoorMem2
namespace Go.Proofs.YtlhhdpjnoainiabDoor
open Go.RowKit
set_option maxRecDepth 100000
set_option maxHeartbeats 400000
theorem path_size {s : ByteArray} (h : pathB s = true) : s.size ≤ 120 := by
  simp only [pathB, Bool.and_eq_true] at h
  exact (globB_true.1 h.1).1
def cmpG (a b : ByteArray) : Int := if globB a && globB b then cmpA a b else -2
def matchB (g p : ByteArray) : Bool := pathB p && coversB g p
theorem MatchGlob_i (a b : ByteArray) (w : World) (hg : GM w) (ha : a.size < 4294967281) (hb : b.size < 4294967281) :
    Calls Tryd.prog 61 #[.string a, .string b] w (RetV (.bool (matchB a b)) w) := by
  have HL : Hid (matchB a b = (pathB b && coversB a b)) := rfl
  generalize matchB a b = R at HL ⊢
  cases h1 : pathB b
  · have HQ : Hid (R = false) := by show R = false; rw [HL.out, h1]; rfl
    have HG := hide h1
    clear h1
    go_enter Tryd.func61, Tryd.ntmps61
    go_wp2_with fail
    refine (isPath_c b w hg hb).mono ?_
    rintro e w1 ⟨rfl, hb⟩
    rw [HG.out]
    go_wp2_with fail
    go_ret
    exact ⟨by rw [HQ.out]; rfl, hb⟩
  · have HQ : Hid (R = coversB a b) := by show R = _; rw [HL.out, h1]; rfl
    have HG := hide h1
    clear h1
    go_enter Tryd.func61, Tryd.ntmps61
    go_wp2_with fail
    refine (isPath_c b w hg hb).mono ?_
    rintro e w1 ⟨rfl, hb1⟩
    rw [HG.out]
    go_wp2_with fail
    refine (covers_c a b w1 (hg.up hb1) ha hb).mono ?_
    rintro e w2 ⟨rfl, hb2⟩
    have hB := then_ hb1 hb2 hb1.size
    go_wp2_with fail
    go_ret
    exact ⟨by rw [HQ.out]; rfl, hB⟩
end Go.Proofs.YtlhhdpjnoainiabDoor
