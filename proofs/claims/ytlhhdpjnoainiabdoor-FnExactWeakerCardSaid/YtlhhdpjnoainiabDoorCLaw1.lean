/- The law of MatchAll: it returns true; the contract says for which arguments. -/
import Derived.Test.YtlhhdpjnoainiabDoorC2
import Derived.Test.YtlhhdpjnoainiabDoorB10
namespace Go.Proofs.YtlhhdpjnoainiabDoor
open Go.RowKit
set_option maxRecDepth 100000
set_option maxHeartbeats 400000
theorem sz_each {l : List ByteArray} {x : ByteArray} (h : x ∈ l) : x.size ≤ szT l := by
  induction l with
  | nil => simp at h
  | cons y t ih =>
    show x.size ≤ y.size + szT t
    rcases List.mem_cons.1 h with rfl | h
    · omega
    · have := ih h; omega
theorem fnExactMatchAll_walk (A : Option Addr) (c : Nat) (l : List ByteArray) (p : ByteArray) (w : World) (hg : GM w) (hr : RdT w A c l) :
    Calls Tryd.prog 3 #[.slice A l.length c, .string p] w (RetV (.bool true) w) := by
  by_cases hp : 1048576 < p.size
  · go_enter Tryd.func3, Tryd.ntmps3
    go_wp2_with fail
    go_ret
    exact ⟨rfl, Below.refl _ _⟩
  have hz := szStringS_c A c l 1048576 w hr (by omega)
  by_cases hle : l.length + szT l ≤ 1048576
  · rw [if_pos hle] at hz
    generalize hL : (1048576 - (l.length + szT l)) = L at hz
    have hlx : ∀ x ∈ l, x.size < 4294967281 := fun x hx => by have := sz_each hx; omega
    have CT := hide fun (w' : World) (hb : Below w.heap.size w w') => toStringS_c A c l w' ((hr.2.2.1).up hb) (by omega)
    have CS := hide fun (A : Option Addr) (c : Nat) (w : World) (hr : Rd w w.heap.size 1 A l.length (sC l)) => MatchAll_s A c l p w hr hlx (by omega)
    have CI := hide fun (A : Option Addr) (c : Nat) (w : World) (hg : GM w) (hr : Rd w w.heap.size 1 A l.length (sC l)) => MatchAll_i A c l p w hg hr hlx (by omega)
    have CE := hide fun (A A2 : Option Addr) (c c2 : Nat) (w : World) (hr : Rd w w.heap.size 1 A l.length (sC l)) (hr2 : Rd w w.heap.size 1 A2 l.length (sC l)) => eqStringS_c A A2 c c2 l w _ _ hr hr2
    have CM := hide fun (A : Option Addr) (c : Nat) (w : World) (lo hi : Nat) (h : Ow w lo hi 9 1 A l.length (sC l)) (hh : hi ≤ w.heap.size) => markStringS_c A c l w lo hi 1 h hh (by omega) (by omega)
    have hml := mAll_len l p
    clear hL hlx
    generalize mAll l p = M at CS CI hml
    generalize hN : 1 + l.length = N at CM
    have hN0 : ¬ (N : Int) < 0 := by omega
    clear hN
    generalize hQ : (M.length : Nat) = q at CS CI hml
    have HQM := hide hQ
    clear hQ
    have CEI := hide fun (A A2 : Option Addr) (c c2 : Nat) (w : World) (hi hi2 : Nat) (hr : Rd w hi 1 A q (iC M)) (hr2 : Rd w hi2 1 A2 q (iC M)) => eqIntS_c A A2 q c c2 M w hi hi2 hr hr2
    have CMI := hide fun (A : Option Addr) (c : Nat) (w : World) (lo hi : Nat) (h : Ow w lo hi 3 1 A q (iC M)) => markIntS_c A q c M w lo hi 1 h (by omega) (by omega) (by omega)
    have CHI := hide fun (A : Option Addr) (c : Nat) (w : World) (hi : Nat) (h : Rd w hi 1 A q (iC (markI 1 q))) => heldIntS_c A q c w hi 1 h (by omega) (by omega) (by omega)
    have hq0 : ¬ (1 : Int) + (q : Int) < 0 := by omega
    go_enter Tryd.func3, Tryd.ntmps3
    go_wp2_with fail
    refine hz.mono ?_
    rintro e w0 ⟨rfl, hb0⟩
    go_wp2_with fail
    refine (CT.out w0 hb0).mono ?_
    rintro e w1 ⟨A1, c1, rfl, hc1, hown1, hb1⟩
    have hB1 := then_ hb0 hb1 hb0.size
    have hr1 := own_rd hown1
    clear hown1 hb1 hb0
    go_wp2_with fail
    refine (CS.out A1 c1 w1 hr1).mono ?_
    rintro e w2 ⟨A2, c2, rfl, hc2, hown2, hb2⟩
    have hB2 := then_ hB1 hb2 hB1.size
    have hr2 := own_rd hown2
    clear hr1 hown2 hb2 hB1
    go_wp2_with fail
    refine (CT.out w2 hB2).mono ?_
    rintro e w3 ⟨A3, c3, rfl, hc3, hown3, hb3⟩
    have hB3 := then_ hB2 hb3 hB2.size
    have ho3 := Ow.of_own hown3
    have hr3 := own_rd hown3
    have hK3 := hb3
    clear hown3 hb3
    go_wp2_with fail
    refine (CI.out A3 c3 w3 (hg.up hB3) hr3).mono ?_
    rintro e w4 ⟨A4, c4, rfl, hc4, hown4, hb4⟩
    have hB4 := then_ hB3 hb4 hB3.size
    have hK4 := then_ hK3 hb4 hK3.size
    have ho4 := Ow.of_own hown4
    have hr4 := own_rd hown4
    have ho34 := ho3.up hb4 (Nat.le_refl _)
    have h34 := hb4.size
    clear hown4 hb4 hr3 ho3 hB3
    go_wp2_with fail
    refine (CEI.out A4 A2 c4 c2 w4 _ _ hr4 (hr2.below hK4 (Nat.le_refl _))).mono ?_
    rintro e w5 ⟨rfl, hb5⟩
    have hB5 := then_ hB4 hb5 hB4.size
    have hK5 := then_ hK4 hb5 hK4.size
    have ho45 := ho4.up hb5 (Nat.le_refl _)
    have ho35 := ho34.up hb5 h34
    have h45 := hb5.size
    clear hb5 hr4 ho4 ho34 hB4 hK4
    go_wp2_with fail
    refine (CT.out w5 hB5).mono ?_
    rintro e w6 ⟨A6, c6, rfl, hc6, hown6, hb6⟩
    have hB6 := then_ hB5 hb6 hB5.size
    have hK6 := then_ hK5 hb6 hK5.size
    have hr6 := own_rd hown6
    have ho46 := ho45.up hb6 h45
    have h56 := hb6.size
    have ho36 := ho35.up hb6 (by omega)
    clear hb6 hown6 ho45 ho35 hB5 hK5
    go_wp2_with fail
    refine (CE.out A3 A6 c3 c6 w6 (ho36.rd.mono (by omega)) hr6).mono ?_
    rintro e w7 ⟨rfl, hb7⟩
    have hB7 := then_ hB6 hb7 hB6.size
    have hK7 := then_ hK6 hb7 hK6.size
    have ho47 := ho46.up hb7 (by omega)
    have ho37 := ho36.up hb7 (by omega)
    have h67 := hb7.size
    clear hb7 hr6 ho46 ho36 hB6 hK6
    go_wp2_with fail
    refine (CM.out A3 c3 w7 w2.heap.size w3.heap.size ho37 (by omega)).mono ?_
    rintro e w8 ⟨rfl, _, hT⟩
    have hB8 := hB7.trans ((hT.below hK7.size).mono hB2.size)
    have hK8 := hK7.trans (hT.below hK7.size)
    have ho48 := hT.ow ho47 (Nat.le_refl _) (by omega)
    have h78 := hT.size
    clear hT ho47 ho37 hB7 hK7
    go_wp2_with fail
    refine (CEI.out A4 A2 c4 c2 w8 _ _ ho48.rd (hr2.below hK8 (Nat.le_refl _))).mono ?_
    rintro e w9 ⟨rfl, hb9⟩
    have hB9 := then_ hB8 hb9 hB8.size
    have hK9 := then_ hK8 hb9 hK8.size
    have ho49 := ho48.up hb9 (by omega)
    have h89 := hb9.size
    clear hb9 ho48 hB8 hK8
    go_wp2_with fail
    refine (CMI.out A4 c4 w9 w3.heap.size w4.heap.size ho49).mono ?_
    rintro e w10 ⟨rfl, ho10, _, hC⟩
    have hB10 := hB9.trans (hC.below.mono (by have := hB2.size; have := hK3.size; omega))
    have hK10 := hK9.trans (hC.below.mono hK3.size)
    have h910 := hC.size
    clear hC ho49 hB9 hK9
    go_wp2_with fail
    refine (CHI.out A4 c4 w10 _ ho10.rd).mono ?_
    rintro e w11 ⟨rfl, hb11⟩
    have hB11 := then_ hB10 hb11 hB10.size
    have hK11 := then_ hK10 hb11 hK10.size
    have ho11 := ho10.up hb11 (by omega)
    have h1011 := hb11.size
    clear hb11 ho10 hB10 hK10
    go_wp2_with fail
    refine (CT.out w11 hB11).mono ?_
    rintro e w12 ⟨A12, c12, rfl, hc12, hown12, hb12⟩
    have hB12 := then_ hB11 hb12 hB11.size
    have hK12 := then_ hK11 hb12 hK11.size
    have hr12 := own_rd hown12
    have ho12 := ho11.up hb12 (by omega)
    have h1112 := hb12.size
    clear hb12 hown12 ho11 hB11 hK11
    go_wp2_with fail
    refine (CI.out A12 c12 w12 (hg.up hB12) hr12).mono ?_
    rintro e w13 ⟨A13, c13, rfl, hc13, hown13, hb13⟩
    have hB13 := then_ hB12 hb13 hB12.size
    have hK13 := then_ hK12 hb13 hK12.size
    have hr13 := own_rd hown13
    have ho13 := ho12.up hb13 (by omega)
    have h1213 := hb13.size
    clear hb13 hown13 ho12 hr12 hB12 hK12
    go_wp2_with fail
    refine (CEI.out A13 A2 c13 c2 w13 _ _ hr13 (hr2.below hK13 (Nat.le_refl _))).mono ?_
    rintro e w14 ⟨rfl, hb14⟩
    have hB14 := then_ hB13 hb14 hB13.size
    have ho14 := ho13.up hb14 (by omega)
    clear hb14 hr13 ho13 hB13 hK13
    go_wp2_with fail
    refine (CHI.out A4 c4 w14 _ ho14.rd).mono ?_
    rintro e w15 ⟨rfl, hb15⟩
    have hB15 := then_ hB14 hb15 hB14.size
    go_wp2_with fail
    go_ret
    exact ⟨rfl, hB15⟩
  · rw [if_neg hle] at hz
    clear hle
    go_enter Tryd.func3, Tryd.ntmps3
    go_wp2_with fail
    refine hz.mono ?_
    rintro e w0 ⟨rfl, hb0⟩
    go_wp2_with fail
    go_ret
    exact ⟨rfl, hb0⟩
end Go.Proofs.YtlhhdpjnoainiabDoor
