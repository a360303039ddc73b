/- The laws of the path functions on texts: each returns true; each contract says for which arguments. -/
import Derived.Test.YtlhhdpjnoainiaaDoorB4
import Derived.Test.YtlhhdpjnoainiaaDoorB9
namespace Go.Proofs.YtlhhdpjnoainiaaDoor
open Go.RowKit
set_option maxRecDepth 100000
set_option maxHeartbeats 400000
theorem fnExactGlobOk_walk (s0 : ByteArray) (w : World) (hg : GM w) :
    Calls Tryd.prog 3 #[.string s0] w (RetV (.bool true) w) := by
  by_cases hs0 : 1048576 < s0.size
  · go_enter Tryd.func3, Tryd.ntmps3
    go_wp2_with fail
    go_ret
    exact ⟨rfl, Below.refl _ _⟩
  have C1 := hide fun (w : World) => GlobOk_s s0 w (by omega)
  have C2 := hide fun (w : World) (hg : GM w) => GlobOk_i s0 w hg (by omega)
  generalize globB s0 = R at C1 C2
  go_enter Tryd.func3, Tryd.ntmps3
  go_wp2_with fail
  refine (C1.out w).mono ?_
  rintro e w1 ⟨rfl, hb1⟩
  go_wp2_with fail
  refine (C2.out w1 (hg.up hb1)).mono ?_
  rintro e w2 ⟨rfl, hb2⟩
  have hB := then_ hb1 hb2 hb1.size
  cases R
  all_goals
    go_wp2_with fail
    go_ret
    exact ⟨rfl, hB⟩
theorem fnExactPathOk_walk (s0 : ByteArray) (w : World) (hg : GM w) :
    Calls Tryd.prog 4 #[.string s0] w (RetV (.bool true) w) := by
  by_cases hs0 : 1048576 < s0.size
  · go_enter Tryd.func4, Tryd.ntmps4
    go_wp2_with fail
    go_ret
    exact ⟨rfl, Below.refl _ _⟩
  have C1 := hide fun (w : World) => PathOk_s s0 w (by omega)
  have C2 := hide fun (w : World) (hg : GM w) => PathOk_i s0 w hg (by omega)
  generalize pathB s0 = R at C1 C2
  go_enter Tryd.func4, Tryd.ntmps4
  go_wp2_with fail
  refine (C1.out w).mono ?_
  rintro e w1 ⟨rfl, hb1⟩
  go_wp2_with fail
  refine (C2.out w1 (hg.up hb1)).mono ?_
  rintro e w2 ⟨rfl, hb2⟩
  have hB := then_ hb1 hb2 hb1.size
  cases R
  all_goals
    go_wp2_with fail
    go_ret
    exact ⟨rfl, hB⟩
theorem fnExactUnderPath_walk (s0 s1 : ByteArray) (w : World) (hg : GM w) :
    Calls Tryd.prog 9 #[.string s0, .string s1] w (RetV (.bool true) w) := by
  by_cases hs0 : 1048576 < s0.size
  · go_enter Tryd.func9, Tryd.ntmps9
    go_wp2_with fail
    go_ret
    exact ⟨rfl, Below.refl _ _⟩
  by_cases hs1 : 1048576 < s1.size
  · go_enter Tryd.func9, Tryd.ntmps9
    go_wp2_with fail
    go_ret
    exact ⟨rfl, Below.refl _ _⟩
  have C1 := hide fun (w : World) => UnderPath_s s0 s1 w (by omega) (by omega)
  have C2 := hide fun (w : World) (hg : GM w) => UnderPath_i s0 s1 w hg (by omega) (by omega)
  generalize underB s0 s1 = R at C1 C2
  go_enter Tryd.func9, Tryd.ntmps9
  go_wp2_with fail
  refine (C1.out w).mono ?_
  rintro e w1 ⟨rfl, hb1⟩
  go_wp2_with fail
  refine (C2.out w1 (hg.up hb1)).mono ?_
  rintro e w2 ⟨rfl, hb2⟩
  have hB := then_ hb1 hb2 hb1.size
  cases R
  all_goals
    go_wp2_with fail
    go_ret
    exact ⟨rfl, hB⟩
theorem fnExactCovers_walk (s0 s1 : ByteArray) (w : World) (hg : GM w) :
    Calls Tryd.prog 10 #[.string s0, .string s1] w (RetV (.bool true) w) := by
  by_cases hs0 : 1048576 < s0.size
  · go_enter Tryd.func10, Tryd.ntmps10
    go_wp2_with fail
    go_ret
    exact ⟨rfl, Below.refl _ _⟩
  by_cases hs1 : 1048576 < s1.size
  · go_enter Tryd.func10, Tryd.ntmps10
    go_wp2_with fail
    go_ret
    exact ⟨rfl, Below.refl _ _⟩
  have C1 := hide fun (w : World) => Covers_s s0 s1 w (by omega) (by omega)
  have C2 := hide fun (w : World) (hg : GM w) => Covers_i s0 s1 w hg (by omega) (by omega)
  generalize coverB s0 s1 = R at C1 C2
  go_enter Tryd.func10, Tryd.ntmps10
  go_wp2_with fail
  refine (C1.out w).mono ?_
  rintro e w1 ⟨rfl, hb1⟩
  go_wp2_with fail
  refine (C2.out w1 (hg.up hb1)).mono ?_
  rintro e w2 ⟨rfl, hb2⟩
  have hB := then_ hb1 hb2 hb1.size
  cases R
  all_goals
    go_wp2_with fail
    go_ret
    exact ⟨rfl, hB⟩
theorem fnExactCompareGlob_walk (s0 s1 : ByteArray) (w : World) (hg : GM w) :
    Calls Tryd.prog 11 #[.string s0, .string s1] w (RetV (.bool true) w) := by
  by_cases hs0 : 1048576 < s0.size
  · go_enter Tryd.func11, Tryd.ntmps11
    go_wp2_with fail
    go_ret
    exact ⟨rfl, Below.refl _ _⟩
  by_cases hs1 : 1048576 < s1.size
  · go_enter Tryd.func11, Tryd.ntmps11
    go_wp2_with fail
    go_ret
    exact ⟨rfl, Below.refl _ _⟩
  have C1 := hide fun (w : World) => CompareGlob_s s0 s1 w (by omega) (by omega)
  have C2 := hide fun (w : World) (hg : GM w) => CompareGlob_i s0 s1 w hg (by omega) (by omega)
  generalize cmpG s0 s1 = R at C1 C2
  go_enter Tryd.func11, Tryd.ntmps11
  go_wp2_with fail
  refine (C1.out w).mono ?_
  rintro e w1 ⟨rfl, hb1⟩
  go_wp2_with fail
  refine (C2.out w1 (hg.up hb1)).mono ?_
  rintro e w2 ⟨rfl, hb2⟩
  have hB := then_ hb1 hb2 hb1.size
  have hRR : (R == R) = true := by simp
  go_wp2_with fail
  go_ret
  exact ⟨rfl, hB⟩
theorem fnExactMatchGlob_walk (s0 s1 : ByteArray) (w : World) (hg : GM w) :
    Calls Tryd.prog 13 #[.string s0, .string s1] w (RetV (.bool true) w) := by
  by_cases hs0 : 1048576 < s0.size
  · go_enter Tryd.func13, Tryd.ntmps13
    go_wp2_with fail
    go_ret
    exact ⟨rfl, Below.refl _ _⟩
  by_cases hs1 : 1048576 < s1.size
  · go_enter Tryd.func13, Tryd.ntmps13
    go_wp2_with fail
    go_ret
    exact ⟨rfl, Below.refl _ _⟩
  have C1 := hide fun (w : World) => MatchGlob_s s0 s1 w (by omega) (by omega)
  have C2 := hide fun (w : World) (hg : GM w) => MatchGlob_i s0 s1 w hg (by omega) (by omega)
  generalize matchB s0 s1 = R at C1 C2
  go_enter Tryd.func13, Tryd.ntmps13
  go_wp2_with fail
  refine (C1.out w).mono ?_
  rintro e w1 ⟨rfl, hb1⟩
  go_wp2_with fail
  refine (C2.out w1 (hg.up hb1)).mono ?_
  rintro e w2 ⟨rfl, hb2⟩
  have hB := then_ hb1 hb2 hb1.size
  cases R
  all_goals
    go_wp2_with fail
    go_ret
    exact ⟨rfl, hB⟩
theorem fnExactParentPath_walk (s0 : ByteArray) (w : World) (hg : GM w) :
    Calls Tryd.prog 7 #[.string s0] w (RetV (.bool true) w) := by
  by_cases hs0 : 1048576 < s0.size
  · go_enter Tryd.func7, Tryd.ntmps7
    go_wp2_with fail
    go_ret
    exact ⟨rfl, Below.refl _ _⟩
  have C1 := hide fun (w : World) => ParentPath_s s0 w (by omega)
  have C2 := hide fun (w : World) (hg : GM w) => ParentPath_i s0 w hg (by omega)
  generalize parA s0 = S at C1 C2
  generalize parOk s0 = R at C1 C2
  go_enter Tryd.func7, Tryd.ntmps7
  go_wp2_with fail
  refine (C1.out w).mono ?_
  rintro e w1 ⟨rfl, hb1⟩
  go_wp2_with fail
  refine (C2.out w1 (hg.up hb1)).mono ?_
  rintro e w2 ⟨rfl, hb2⟩
  have hB := then_ hb1 hb2 hb1.size
  cases R
  all_goals
    go_wp2_with fail
    go_ret
    exact ⟨rfl, hB⟩
end Go.Proofs.YtlhhdpjnoainiaaDoor
