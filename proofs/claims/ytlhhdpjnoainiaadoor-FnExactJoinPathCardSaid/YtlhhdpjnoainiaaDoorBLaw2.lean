/- The laws of SplitPath and JoinPath: each returns true; each contract says for which arguments. -/
import Derived.Test.YtlhhdpjnoainiaaDoorB9
import Derived.Test.YtlhhdpjnoainiaaDoorB10
namespace Go.Proofs.YtlhhdpjnoainiaaDoor
open Go.RowKit
set_option maxRecDepth 100000
set_option maxHeartbeats 400000
theorem splitA_length (s : ByteArray) : (splitA s).length ≤ s.size + 1 := by
  unfold splitA
  split
  · exact prt_length_le 47 s
  · simp
theorem fnExactSplitPath_walk (s : ByteArray) (w : World) (hg : GM w) :
    Calls Tryd.prog 5 #[.string s] w (RetV (.bool true) w) := by
  by_cases hs : 1048576 < s.size
  · go_enter Tryd.func5, Tryd.ntmps5
    go_wp2_with fail
    go_ret
    exact ⟨rfl, Below.refl _ _⟩
  have C1 := hide fun (w : World) => SplitPath_s s w (by omega)
  have C2 := hide fun (w : World) (hg : GM w) => SplitPath_i s w hg (by omega)
  have hlen := splitA_length s
  have hlen2 : (splitA s).length ≤ 1048577 := by omega
  clear hlen
  generalize splitA s = S at C1 C2 hlen2
  generalize globB s = R at C1 C2
  go_enter Tryd.func5, Tryd.ntmps5
  go_wp2_with fail
  refine (C1.out w).mono ?_
  rintro e w1 ⟨A0, c0, rfl, hc0, hown0, hb1⟩
  have hr0 := own_rd hown0
  clear hown0
  go_wp2_with fail
  refine (C2.out w1 (hg.up hb1)).mono ?_
  rintro e w2 ⟨A, c, rfl, hc, hown, hb2⟩
  have how := Ow.of_own hown
  have hr1 := own_rd hown
  have hB2 := then_ hb1 hb2 hb1.size
  have hr0' := hr0.up hb2
  clear hown
  go_wp2_with fail
  refine (eqStringS_c A A0 c c0 S w2 _ _ hr1 hr0').mono ?_
  rintro e w3 ⟨rfl, hb3⟩
  have how3 := how.up hb3 (Nat.le_refl _)
  have hB3 := then_ hB2 hb3 hB2.size
  have hb13 := then_ hb2 hb3 hb2.size
  have hRR : (R != R) = false := by simp
  clear hr0' hr1 how
  go_wp2_with fail
  refine (markStringS_c A c S w3 w1.heap.size w2.heap.size 1 how3 hb3.size (by omega) (by omega)).mono ?_
  rintro e w4 ⟨rfl, how4, hT⟩
  have hb34 := hT.below hb13.size
  have hB4 := hB3.trans (hb34.mono hb1.size)
  have hb14 := hb13.trans hb34
  have hr4 := (how4.rd).mono (show w2.heap.size ≤ w4.heap.size from Nat.le_trans hb3.size hT.size)
  clear hT how3 hb13 how4 hb2 hb3 hb34 hB2 hB3
  generalize hN : 1 + S.length = N
  have HN := hide hN
  have hH1 := heldStringS_c A c S.length 1 w4 hr4 (by omega) (by omega)
  rw [hN] at hH1
  have hN0 : ¬ (N : Int) < 0 := by omega
  clear hN
  go_wp2_with fail
  refine hH1.mono ?_
  rintro e w5 ⟨rfl, hb5⟩
  have hB5 := then_ hB4 hb5 hB4.size
  have hb15 := then_ hb14 hb5 hb14.size
  have hr5 := hr4.up hb5
  clear hr4 hH1 hB4 hb5 hb14
  go_wp2_with fail
  refine (C2.out w5 (hg.up hB5)).mono ?_
  rintro e w6 ⟨A6, c6, rfl, hc6, hown6, hb6⟩
  have hr6 := own_rd hown6
  have hB6 := then_ hB5 hb6 hB5.size
  have hb16 := then_ hb15 hb6 hb15.size
  have hr5' := hr5.up hb6
  clear hown6 hr5 hB5 hb15
  go_wp2_with fail
  refine (eqStringS_c A6 A0 c6 c0 S w6 _ _ hr6 (hr0.below hb16 (Nat.le_refl _))).mono ?_
  rintro e w7 ⟨rfl, hb7⟩
  have hB7 := then_ hB6 hb7 hB6.size
  have hr7 := hr5'.up hb7
  have hH2 := heldStringS_c A c S.length 1 w7 hr7 (by omega) (by omega)
  rw [HN.out] at hH2
  clear hr6 hr7 hr5' hB6 hb16
  go_wp2_with fail
  refine hH2.mono ?_
  rintro e w8 ⟨rfl, hb8⟩
  have hB8 := then_ hB7 hb8 hB7.size
  go_wp2_with fail
  go_ret
  exact ⟨rfl, hB8⟩
theorem joinL_len (c : UInt8) : ∀ ps : List (List UInt8), (joinL c ps).length ≤ (ps.map (·.length)).sum + ps.length
  | [] => by simp [joinL]
  | [p] => by simp [joinL]
  | p :: q :: r => by
    have ih := joinL_len c (q :: r)
    rw [joinL_cons]
    simp at ih ⊢; omega
theorem szT_sum : ∀ l : List ByteArray, ((l.map (fun x => x.data.toList)).map (·.length)).sum = szT l
  | [] => rfl
  | x :: t => by
    have ih := szT_sum t
    simp only [List.map_cons, List.sum_cons, ih]
    show x.data.toList.length + szT t = x.size + szT t
    rw [size_l]
theorem joinB_size (l : List ByteArray) : (joinB l).size ≤ szT l + l.length := by
  have h := joinL_len 47 (l.map (fun x => x.data.toList))
  rw [szT_sum, List.length_map] at h
  exact h
theorem fnExactJoinPath_walk (A : Option Addr) (c : Nat) (l : List ByteArray) (w : World) (hg : GM w) (hr : RdT w A c l) :
    Calls Tryd.prog 6 #[.slice A l.length c] w (RetV (.bool true) w) := by
  have hz := szStringS_c A c l 1048576 w hr (by omega)
  by_cases hle : l.length + szT l ≤ 1048576
  · rw [if_pos hle] at hz
    generalize hL : (1048576 - (l.length + szT l)) = L at hz
    have hjs := joinB_size l
    have CT := hide fun (w' : World) (hb : Below w.heap.size w w') => toStringS_c A c l w' ((hr.2.2.1).up hb) (by omega)
    have CS := hide fun (A : Option Addr) (c : Nat) (w : World) (hr : Rd w w.heap.size 1 A l.length (sC l)) => JoinPath_s A c l w _ hr
    have CI := hide fun (A : Option Addr) (c : Nat) (w : World) (hg : GM w) (hr : Rd w w.heap.size 1 A l.length (sC l)) (hc : l.length ≤ c) => JoinPath_i A c l w hg hr hc (by omega) (by omega)
    have CE := hide fun (A A2 : Option Addr) (c c2 : Nat) (w : World) (hr : Rd w w.heap.size 1 A l.length (sC l)) (hr2 : Rd w w.heap.size 1 A2 l.length (sC l)) => eqStringS_c A A2 c c2 l w _ _ hr hr2
    clear hL hle hjs
    generalize joinA l = J at CS CI
    generalize joinOk l = R at CS CI
    have hRR : (R != R) = false := by simp
    go_enter Tryd.func6, Tryd.ntmps6
    go_wp2_with fail
    refine hz.mono ?_
    rintro e w0 ⟨rfl, hb0⟩
    go_wp2_with fail
    refine (CT.out w0 hb0).mono ?_
    rintro e w1 ⟨A1, c1, rfl, hc1, hown1, hb1⟩
    have hB1 := then_ hb0 hb1 hb0.size
    have hr1 := own_rd hown1
    clear hown1
    go_wp2_with fail
    refine (CS.out A1 c1 w1 hr1).mono ?_
    rintro e w2 ⟨rfl, hb2⟩
    have hB2 := then_ hB1 hb2 hB1.size
    clear hr1
    go_wp2_with fail
    refine (CT.out w2 hB2).mono ?_
    rintro e w3 ⟨A3, c3, rfl, hc3, hown3, hb3⟩
    have hB3 := then_ hB2 hb3 hB2.size
    have hr3 := own_rd hown3
    clear hown3
    go_wp2_with fail
    refine (CI.out A3 c3 w3 (hg.up hB3) hr3 hc3).mono ?_
    rintro e w4 ⟨rfl, hb4⟩
    have hB4 := then_ hB3 hb4 hB3.size
    have hr4 := hr3.up hb4
    clear hr3
    go_wp2_with fail
    refine (CT.out w4 hB4).mono ?_
    rintro e w5 ⟨A5, c5, rfl, hc5, hown5, hb5⟩
    have hB5 := then_ hB4 hb5 hB4.size
    have hr5 := own_rd hown5
    have hr45 := hr4.up hb5
    clear hown5 hr4
    go_wp2_with fail
    refine (CE.out A3 A5 c3 c5 w5 hr45 hr5).mono ?_
    rintro e w6 ⟨rfl, hb6⟩
    have hB6 := then_ hB5 hb6 hB5.size
    go_wp2_with fail
    go_ret
    exact ⟨rfl, hB6⟩
  · rw [if_neg hle] at hz
    clear hle
    go_enter Tryd.func6, Tryd.ntmps6
    go_wp2_with fail
    refine hz.mono ?_
    rintro e w0 ⟨rfl, hb0⟩
    go_wp2_with fail
    go_ret
    exact ⟨rfl, hb0⟩
end Go.Proofs.YtlhhdpjnoainiaaDoor
