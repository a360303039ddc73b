/- The law of Weaker: it returns true; the contract says for which arguments. -/
import Derived.Test.YtlhhdpjnoainiabDoorCLaw4
import Derived.Test.YtlhhdpjnoainiabDoorCLaw1
namespace Go.Proofs.YtlhhdpjnoainiabDoor
open Go.RowKit
set_option maxRecDepth 100000
set_option maxHeartbeats 400000
theorem fnExactWeaker_walk (A : Option Addr) (c : Nat) (a : List Pl) (A' : Option Addr) (c' : Nat) (b : List Pl) (A'' : Option Addr) (c'' : Nat) (l : List ByteArray) (w : World) (hg : GM w) (hw : RdP w A c a) (hw2 : RdP w A' c' b) (hw3 : RdT w A'' c'' l) :
    Calls Tryd.prog 9 #[.slice A a.length c, .slice A' b.length c', .slice A'' l.length c''] w (RetV (.bool true) w) := by
  obtain ⟨hlc, hcm, hr, hes⟩ := hw
  obtain ⟨hlc2, hcm2, hr2, hes2⟩ := hw2
  have CZ := szPolicyS_c A c a 1048576 w hr (fun x hx => ⟨(hes x hx).1, fun y hy => ((hes x hx).2 y hy).1⟩) (by omega)
  by_cases hle : a.length + szPl a ≤ 1048576
  case neg =>
    rw [if_neg hle] at CZ
    clear hle
    go_enter Tryd.func9, Tryd.ntmps9
    go_wp2_with fail
    refine CZ.mono ?_
    rintro e w1 ⟨rfl, hb1⟩
    go_wp2_with fail
    go_ret
    exact ⟨rfl, hb1⟩
  rw [if_pos hle] at CZ
  have CZ2 := hide fun (W : World) (hb : Below w.heap.size w W) => szPolicyS_c A' c' b (1048576 - (a.length + szPl a)) W (hr2.up hb) (fun x hx => ⟨(hes2 x hx).1, fun y hy => ((hes2 x hx).2 y hy).1⟩) (by omega)
  obtain ⟨hz, hnm, hln⟩ := szPl_bd hle
  have hal : a.length ≤ 1048576 := by omega
  generalize hX : 1048576 - (a.length + szPl a) = X at CZ CZ2
  have hXb : X ≤ 1048576 := by omega
  clear hX hle
  by_cases hle2 : b.length + szPl b ≤ X
  case neg =>
    have CZ3 := hide fun (W : World) (hb : Below w.heap.size w W) => by have := CZ2.out W hb; rw [if_neg hle2] at this; exact this
    clear hle2 CZ2
    go_enter Tryd.func9, Tryd.ntmps9
    go_wp2_with fail
    refine CZ.mono ?_
    rintro e w1 ⟨rfl, hb1⟩
    go_wp2_with fail
    refine (CZ3.out _ hb1).mono ?_
    rintro e w2 ⟨rfl, hb2⟩
    have hB2 := then_ hb1 hb2 hb1.size
    go_wp2_with fail
    go_ret
    exact ⟨rfl, hB2⟩
  have CZ3 := hide fun (W : World) (hb : Below w.heap.size w W) => by have := CZ2.out W hb; rw [if_pos hle2] at this; exact this
  obtain ⟨hz2, hnm2, hln2⟩ := szPl_bd (show b.length + szPl b ≤ 1048576 from by omega)
  have hbl : b.length ≤ 1048576 := by omega
  generalize hY : X - (b.length + szPl b) = Y at CZ3
  have hYb : Y ≤ 1048576 := by omega
  have CZ4 := hide fun (W : World) (hb : Below w.heap.size w W) => szStringS_c A'' c'' l Y W ⟨hw3.1, hw3.2.1, hw3.2.2.1.up hb, hw3.2.2.2⟩ hYb
  clear CZ2 hle2 hY
  by_cases hle3 : l.length + szT l ≤ Y
  case neg =>
    have CZ5 := hide fun (W : World) (hb : Below w.heap.size w W) => by have := CZ4.out W hb; rw [if_neg hle3] at this; exact this
    clear hle3 CZ4
    go_enter Tryd.func9, Tryd.ntmps9
    go_wp2_with fail
    refine CZ.mono ?_
    rintro e w1 ⟨rfl, hb1⟩
    go_wp2_with fail
    refine (CZ3.out _ hb1).mono ?_
    rintro e w2 ⟨rfl, hb2⟩
    have hB2 := then_ hb1 hb2 hb1.size
    go_wp2_with fail
    refine (CZ5.out _ hB2).mono ?_
    rintro e w3 ⟨rfl, hb3⟩
    have hB3 := then_ hB2 hb3 hB2.size
    go_wp2_with fail
    go_ret
    exact ⟨rfl, hB3⟩
  have CZ5 := hide fun (W : World) (hb : Below w.heap.size w W) => by have := CZ4.out W hb; rw [if_pos hle3] at this; exact this
  generalize hV : Y - (l.length + szT l) = V at CZ5
  have hlx : ∀ x ∈ l, x.size < 4294967281 := fun x hx => by have := sz_each hx; omega
  have hr3 := hw3.2.2.1
  have CTa := hide fun (W : World) (hb : Below w.heap.size w W) => toPolicyS_c A c a W (hr.up hb) hal hln
  have CTb := hide fun (W : World) (hb : Below w.heap.size w W) => toPolicyS_c A' c' b W (hr2.up hb) hbl hln2
  have CTl := hide fun (W : World) (hb : Below w.heap.size w W) => toStringS_c A'' c'' l W (hr3.up hb) (by omega)
  have CS := hide fun (A A2 A3 : Option Addr) (c c2 c3 : Nat) (W : World) (h : PlR W W.heap.size A a.length a) (h2 : PlR W W.heap.size A2 b.length b) (h3 : Rd W W.heap.size 1 A3 l.length (sC l)) => Weaker_s A A2 A3 c c2 c3 a b l W h h2 h3 hz hz2 hnm hnm2 hlx
  have CI := hide fun (A A2 A3 : Option Addr) (c c2 c3 : Nat) (W : World) (hg : GM W) (h : PlR W W.heap.size A a.length a) (h2 : PlR W W.heap.size A2 b.length b) (h3 : Rd W W.heap.size 1 A3 l.length (sC l)) => Weaker_i A A2 A3 c c2 c3 a b l W hg h h2 h3 hz hz2 hlx
  have CEa := hide fun (A A2 : Option Addr) (c c2 : Nat) (W : World) (h : PlR W W.heap.size A a.length a) (h2 : PlR W W.heap.size A2 a.length a) => eqPolicyS_c A A2 c c2 a W h h2
  have CEb := hide fun (A A2 : Option Addr) (c c2 : Nat) (W : World) (h : PlR W W.heap.size A b.length b) (h2 : PlR W W.heap.size A2 b.length b) => eqPolicyS_c A A2 c c2 b W h h2
  have CEl := hide fun (A A2 : Option Addr) (c c2 : Nat) (W : World) (h : Rd W W.heap.size 1 A l.length (sC l)) (h2 : Rd W W.heap.size 1 A2 l.length (sC l)) => eqStringS_c A A2 c c2 l W _ _ h h2
  clear hle3 CZ4 hV hlx hz hz2 hnm hnm2 hln hln2 hal hbl hes hes2 hw3 hr3 hr hr2 hXb hYb
  generalize weakB a b l = R at CS CI
  have hRR : (R != R) = false := by simp
  go_enter Tryd.func9, Tryd.ntmps9
  go_wp2_with fail
  refine CZ.mono ?_
  rintro e w1 ⟨rfl, hb1⟩
  go_wp2_with fail
  refine (CZ3.out _ hb1).mono ?_
  rintro e w2 ⟨rfl, hb2⟩
  have hB2 := then_ hb1 hb2 hb1.size
  clear hb1 hb2
  go_wp2_with fail
  refine (CZ5.out _ hB2).mono ?_
  rintro e w3 ⟨rfl, hb3⟩
  have hB3 := then_ hB2 hb3 hB2.size
  clear hb3 hB2 CZ CZ3 CZ5
  go_wp2_with fail
  refine (CTa.out _ hB3).mono ?_
  rintro e w4 ⟨A4, c4, rfl, _, r4, hb4⟩
  have hB4 := then_ hB3 hb4 hB3.size
  clear hb4 hB3
  go_wp2_with fail
  refine (CTb.out _ hB4).mono ?_
  rintro e w5 ⟨A5, c5, rfl, _, r5, hb5⟩
  have hB5 := then_ hB4 hb5 hB4.size
  replace r4 := r4.up hb5
  clear hb5 hB4
  go_wp2_with fail
  refine (CTl.out _ hB5).mono ?_
  rintro e w6 ⟨A6, c6, rfl, _, o6, hb6⟩
  have hB6 := then_ hB5 hb6 hB5.size
  have r6 := own_rd o6
  replace r4 := r4.up hb6
  replace r5 := r5.up hb6
  clear hb6 hB5 o6
  go_wp2_with fail
  refine (CS.out A4 A5 A6 c4 c5 c6 _ r4 r5 r6).mono ?_
  rintro e w7 ⟨rfl, hb7⟩
  have hB7 := then_ hB6 hb7 hB6.size
  clear hb7 hB6 r4 r5 r6
  go_wp2_with fail
  refine (CTa.out _ hB7).mono ?_
  rintro e w8 ⟨A8, c8, rfl, _, r8, hb8⟩
  have hB8 := then_ hB7 hb8 hB7.size
  clear hb8 hB7
  go_wp2_with fail
  refine (CTb.out _ hB8).mono ?_
  rintro e w9 ⟨A9, c9, rfl, _, r9, hb9⟩
  have hB9 := then_ hB8 hb9 hB8.size
  replace r8 := r8.up hb9
  clear hb9 hB8
  go_wp2_with fail
  refine (CTl.out _ hB9).mono ?_
  rintro e w10 ⟨A10, c10, rfl, _, o10, hb10⟩
  have hB10 := then_ hB9 hb10 hB9.size
  have r10 := own_rd o10
  replace r8 := r8.up hb10
  replace r9 := r9.up hb10
  clear hb10 hB9 o10
  go_wp2_with fail
  refine (CI.out A8 A9 A10 c8 c9 c10 _ (hg.up hB10) r8 r9 r10).mono ?_
  rintro e w11 ⟨rfl, hb11⟩
  have hB11 := then_ hB10 hb11 hB10.size
  replace r8 := r8.up hb11
  replace r9 := r9.up hb11
  replace r10 := r10.up hb11
  clear hb11 hB10
  go_wp2_with fail
  refine (CTa.out _ hB11).mono ?_
  rintro e w12 ⟨A12, c12, rfl, _, r12, hb12⟩
  have hB12 := then_ hB11 hb12 hB11.size
  replace r8 := r8.up hb12
  replace r9 := r9.up hb12
  replace r10 := r10.up hb12
  clear hb12 hB11
  go_wp2_with fail
  refine (CEa.out A8 A12 c8 c12 _ r8 r12).mono ?_
  rintro e w13 ⟨rfl, hb13⟩
  have hB13 := then_ hB12 hb13 hB12.size
  replace r9 := r9.up hb13
  replace r10 := r10.up hb13
  clear hb13 hB12 r8 r12
  go_wp2_with fail
  refine (CTb.out _ hB13).mono ?_
  rintro e w14 ⟨A14, c14, rfl, _, r14, hb14⟩
  have hB14 := then_ hB13 hb14 hB13.size
  replace r9 := r9.up hb14
  replace r10 := r10.up hb14
  clear hb14 hB13
  go_wp2_with fail
  refine (CEb.out A9 A14 c9 c14 _ r9 r14).mono ?_
  rintro e w15 ⟨rfl, hb15⟩
  have hB15 := then_ hB14 hb15 hB14.size
  replace r10 := r10.up hb15
  clear hb15 hB14 r9 r14
  go_wp2_with fail
  refine (CTl.out _ hB15).mono ?_
  rintro e w16 ⟨A16, c16, rfl, _, o16, hb16⟩
  have hB16 := then_ hB15 hb16 hB15.size
  have r16 := own_rd o16
  replace r10 := r10.up hb16
  clear hb16 hB15 o16
  go_wp2_with fail
  refine (CEl.out A10 A16 c10 c16 _ r10 r16).mono ?_
  rintro e w17 ⟨rfl, hb17⟩
  have hB17 := then_ hB16 hb17 hB16.size
  go_wp2_with fail
  go_ret
  exact ⟨rfl, hB17⟩
end Go.Proofs.YtlhhdpjnoainiabDoor
