/- The laws of CapsOf and Allowed: each returns true; each contract says for which arguments. -/
import Derived.Test.YtlhhdpjnoainiabDoorC9
import Derived.Test.YtlhhdpjnoainiabDoorC11
namespace Go.Proofs.YtlhhdpjnoainiabDoor
open Go.RowKit
set_option maxRecDepth 100000
set_option maxHeartbeats 400000
theorem szPl_bd {l : List Pl} (h : l.length + szPl l ≤ 1048576) : (∀ y ∈ l, ∀ z ∈ y.2, z.1.size < 4294967281) ∧ (∀ y ∈ l, y.1.size ≤ 9223372036854775806) ∧ (∀ y ∈ l, y.2.length ≤ 1048576) := by
  have e : ∀ y ∈ l, y.1.size + (y.2.length + szR y.2) ≤ 1048576 := fun y hy => by have := szPl_each hy; unfold szP at this; omega
  exact ⟨fun y hy z hz => by have := e y hy; have := szR_each hz; omega, fun y hy => by have := e y hy; omega, fun y hy => by have := e y hy; omega⟩
theorem fnExactCapsOf_walk (A : Option Addr) (c : Nat) (l : List Pl) (p : ByteArray) (w : World) (hg : GM w) (hw : RdP w A c l) :
    Calls Tryd.prog 6 #[.slice A l.length c, .string p] w (RetV (.bool true) w) := by
  obtain ⟨hlc, hcm, hr, hes⟩ := hw
  by_cases hp : 1048576 < p.size
  · go_enter Tryd.func6, Tryd.ntmps6
    go_wp2_with fail
    go_ret
    exact ⟨rfl, Below.refl _ _⟩
  have CZ := szPolicyS_c A c l 1048576 w hr (fun x hx => ⟨(hes x hx).1, fun y hy => ((hes x hx).2 y hy).1⟩) (by omega)
  by_cases hle : l.length + szPl l ≤ 1048576
  · rw [if_pos hle] at CZ
    generalize hX : 1048576 - (l.length + szPl l) = X at CZ
    obtain ⟨hz, hnm, hln⟩ := szPl_bd hle
    have CT := hide fun (W : World) (hb : Below w.heap.size w W) => toPolicyS_c A c l W (hr.up hb) (by omega) hln
    have CS := hide fun (A : Option Addr) (c : Nat) (W : World) (h : PlR W W.heap.size A l.length l) => CapsOf_s A c l p W h hz hnm (by omega)
    have CI := hide fun (A : Option Addr) (c : Nat) (W : World) (hg : GM W) (h : PlR W W.heap.size A l.length l) => CapsOf_i A c l p W hg h hz (by omega)
    have CE := hide fun (A A2 : Option Addr) (c c2 : Nat) (W : World) (h : PlR W W.heap.size A l.length l) (h2 : PlR W W.heap.size A2 l.length l) => eqPolicyS_c A A2 c c2 l W h h2
    clear hX hle hz hnm hln hes
    generalize capsR l p = R at CS CI
    have hRR : (R == R) = true := by simp
    go_enter Tryd.func6, Tryd.ntmps6
    go_wp2_with fail
    refine CZ.mono ?_
    rintro e w1 ⟨rfl, hb1⟩
    go_wp2_with fail
    refine (CT.out _ hb1).mono ?_
    rintro e w2 ⟨A2, c2, rfl, hc2, hr2, hb2⟩
    have hB2 := then_ hb1 hb2 hb1.size
    clear hb2 hb1
    go_wp2_with fail
    refine (CS.out A2 c2 _ hr2).mono ?_
    rintro e w3 ⟨rfl, hb3⟩
    have hB3 := then_ hB2 hb3 hB2.size
    clear hb3 hB2 hr2
    go_wp2_with fail
    refine (CT.out _ hB3).mono ?_
    rintro e w4 ⟨A4, c4, rfl, hc4, hr4, hb4⟩
    have hB4 := then_ hB3 hb4 hB3.size
    clear hb4 hB3
    go_wp2_with fail
    refine (CI.out A4 c4 _ (hg.up hB4) hr4).mono ?_
    rintro e w5 ⟨rfl, hb5⟩
    have hB5 := then_ hB4 hb5 hB4.size
    have hr45 := hr4.up hb5
    clear hb5 hB4 hr4
    go_wp2_with fail
    refine (CT.out _ hB5).mono ?_
    rintro e w6 ⟨A6, c6, rfl, hc6, hr6, hb6⟩
    have hB6 := then_ hB5 hb6 hB5.size
    have hr46 := hr45.up hb6
    clear hb6 hB5 hr45
    go_wp2_with fail
    refine (CE.out A4 A6 c4 c6 _ hr46 hr6).mono ?_
    rintro e w7 ⟨rfl, hb7⟩
    have hB7 := then_ hB6 hb7 hB6.size
    go_wp2_with fail
    go_ret
    exact ⟨rfl, hB7⟩
  · rw [if_neg hle] at CZ
    clear hle
    go_enter Tryd.func6, Tryd.ntmps6
    go_wp2_with fail
    refine CZ.mono ?_
    rintro e w1 ⟨rfl, hb1⟩
    go_wp2_with fail
    go_ret
    exact ⟨rfl, hb1⟩
theorem fnExactAllowed_walk (A : Option Addr) (c : Nat) (l : List Pl) (p : ByteArray) (x : Int) (w : World) (hg : GM w) (hw : RdP w A c l) (_ : (Lit.int .i64 x).wf = true) :
    Calls Tryd.prog 7 #[.slice A l.length c, .string p, .int .i64 x] w (RetV (.bool true) w) := by
  obtain ⟨hlc, hcm, hr, hes⟩ := hw
  by_cases hp : 1048576 < p.size
  · go_enter Tryd.func7, Tryd.ntmps7
    go_wp2_with fail
    go_ret
    exact ⟨rfl, Below.refl _ _⟩
  have CZ := szPolicyS_c A c l 1048576 w hr (fun x hx => ⟨(hes x hx).1, fun y hy => ((hes x hx).2 y hy).1⟩) (by omega)
  by_cases hle : l.length + szPl l ≤ 1048576
  · rw [if_pos hle] at CZ
    generalize hX : 1048576 - (l.length + szPl l) = X at CZ
    obtain ⟨hz, hnm, hln⟩ := szPl_bd hle
    have CT := hide fun (W : World) (hb : Below w.heap.size w W) => toPolicyS_c A c l W (hr.up hb) (by omega) hln
    have CS := hide fun (A : Option Addr) (c : Nat) (W : World) (h : PlR W W.heap.size A l.length l) => Allowed_s A c l p x W h hz hnm (by omega)
    have CI := hide fun (A : Option Addr) (c : Nat) (W : World) (hg : GM W) (h : PlR W W.heap.size A l.length l) => Allowed_i A c l p x W hg h hz (by omega)
    have CE := hide fun (A A2 : Option Addr) (c c2 : Nat) (W : World) (h : PlR W W.heap.size A l.length l) (h2 : PlR W W.heap.size A2 l.length l) => eqPolicyS_c A A2 c c2 l W h h2
    clear hX hle hz hnm hln hes
    generalize allowB l p x = R at CS CI
    have hRR : (R != R) = false := by simp
    go_enter Tryd.func7, Tryd.ntmps7
    go_wp2_with fail
    refine CZ.mono ?_
    rintro e w1 ⟨rfl, hb1⟩
    go_wp2_with fail
    refine (CT.out _ hb1).mono ?_
    rintro e w2 ⟨A2, c2, rfl, hc2, hr2, hb2⟩
    have hB2 := then_ hb1 hb2 hb1.size
    clear hb2 hb1
    go_wp2_with fail
    refine (CS.out A2 c2 _ hr2).mono ?_
    rintro e w3 ⟨rfl, hb3⟩
    have hB3 := then_ hB2 hb3 hB2.size
    clear hb3 hB2 hr2
    go_wp2_with fail
    refine (CT.out _ hB3).mono ?_
    rintro e w4 ⟨A4, c4, rfl, hc4, hr4, hb4⟩
    have hB4 := then_ hB3 hb4 hB3.size
    clear hb4 hB3
    go_wp2_with fail
    refine (CI.out A4 c4 _ (hg.up hB4) hr4).mono ?_
    rintro e w5 ⟨rfl, hb5⟩
    have hB5 := then_ hB4 hb5 hB4.size
    have hr45 := hr4.up hb5
    clear hb5 hB4 hr4
    go_wp2_with fail
    refine (CT.out _ hB5).mono ?_
    rintro e w6 ⟨A6, c6, rfl, hc6, hr6, hb6⟩
    have hB6 := then_ hB5 hb6 hB5.size
    have hr46 := hr45.up hb6
    clear hb6 hB5 hr45
    go_wp2_with fail
    refine (CE.out A4 A6 c4 c6 _ hr46 hr6).mono ?_
    rintro e w7 ⟨rfl, hb7⟩
    have hB7 := then_ hB6 hb7 hB6.size
    go_wp2_with fail
    go_ret
    exact ⟨rfl, hB7⟩
  · rw [if_neg hle] at CZ
    clear hle
    go_enter Tryd.func7, Tryd.ntmps7
    go_wp2_with fail
    refine CZ.mono ?_
    rintro e w1 ⟨rfl, hb1⟩
    go_wp2_with fail
    go_ret
    exact ⟨rfl, hb1⟩
end Go.Proofs.YtlhhdpjnoainiabDoor
