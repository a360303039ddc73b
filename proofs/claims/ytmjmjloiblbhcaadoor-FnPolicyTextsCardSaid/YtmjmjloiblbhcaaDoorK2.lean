/- What the program's CapsText and ParseCaps give; each contract says for which arguments. -/
import Derived.Test.YtmjmjloiblbhcaaDoorK1
namespace Go.Proofs.YtmjmjloiblbhcaaDoor
open Go.RowKit
set_option maxRecDepth 100000
set_option maxHeartbeats 400000
theorem CapsText_i (x : Int) (w : World) : Calls Tryd.prog 14 #[.int .i64 x] w (Pure (.string (capsG x)) w) := by
  have HG : Hid (capsG x = if inB x 0 63 then capsB x.toNat else ⟨#[]⟩) := rfl
  generalize capsG x = R at HG ⊢
  cases hin : inB x 0 63
  · have HQ : Hid (R = ⟨#[]⟩) := by show R = _; rw [HG.out, hin]; rfl
    have HI := hide hin
    clear hin
    go_enter Tryd.func14, Tryd.ntmps14
    go_wp2_with fail
    refine (within_c _ _ _ _).mono ?_
    rintro e w' ⟨rfl, rfl⟩
    rw [HI.out]
    go_wp2_with fail
    go_ret
    exact ⟨by rw [HQ.out]; rfl, rfl⟩
  obtain ⟨h0, h63⟩ := inB_true.1 hin
  obtain ⟨n, rfl⟩ := Int.eq_ofNat_of_zero_le h0
  have HR : Hid (R = capsB n) := by show R = _; rw [HG.out, hin]; simp
  have HI := hide hin
  have hc := capsText_c n (by omega) w
  clear hin HG h0 h63
  go_enter Tryd.func14, Tryd.ntmps14
  go_wp2_with fail
  refine (within_c _ _ _ _).mono ?_
  rintro e w' ⟨rfl, rfl⟩
  rw [HI.out]
  go_wp2_with fail
  refine hc.mono ?_
  rintro e w' ⟨rfl, rfl⟩
  go_wp2_with fail
  go_ret
  exact ⟨by rw [HR.out]; rfl, rfl⟩
theorem ParseCaps_i (s : ByteArray) (hs : s.size ≤ 9223372036854775807) (w : World) :
    Calls Tryd.prog 13 #[.string s] w (Pure (.tuple #[.int .i64 ((parseB s).1 : Nat), .bool (parseB s).2]) w) := by
  have hP := parseCaps_c s hs w
  generalize parseB s = R at hP ⊢
  go_enter Tryd.func13, Tryd.ntmps13
  go_wp2_with fail
  refine hP.mono ?_
  rintro e w' ⟨rfl, rfl⟩
  go_wp2_with fail
  refine bodyPost_ret (v := .tuple #[.int .i64 (R.1 : Int), .bool R.2]) (by simp [results, Tryd.results13, go_sem]) rfl ?_
  exact ⟨rfl, rfl⟩
end Go.Proofs.YtmjmjloiblbhcaaDoor
