/- The law of ParsePolicy: it returns true; the contract says for which arguments. -/
import Derived.Test.YtlhhdpjnoainiabDoorC13
import Derived.Test.YtlhhdpjnoainiabDoorC15
namespace Go.Proofs.YtlhhdpjnoainiabDoor
open Go.RowKit
set_option maxRecDepth 100000
set_option maxHeartbeats 1000000
theorem parR_len (nm t : ByteArray) : (parR nm t).length ≤ 20 := by
  cases h : parP nm t
  · rw [(parR_no h).1]; simp
  · rw [(parR_ok h).1]
    simp only [parP, Bool.and_eq_true] at h
    exact (polB_true.1 h.2.1).2.1
/-- a policy and a bit, in new memory -/
def RetPB (N : ByteArray) (S : List Rl) (R : Bool) (w : World) (en : Ending) (w' : World) : Prop :=
  ∃ A c, en = .returned (.tuple #[.agg #[.string N, .slice A S.length c], .bool R]) ∧ S.length ≤ c ∧ w'.ownsRow w.heap.size 43 2 (.slice A S.length c) S.length (rC S) ∧ Below w.heap.size w w'
theorem fnExactParsePolicy_walk (s0 s1 : ByteArray) (w : World) (hg : GM w) :
    Calls Tryd.prog 11 #[.string s0, .string s1] w (RetV (.bool true) w) := by
  by_cases hs0 : 1048576 < s0.size
  · go_enter Tryd.func11, Tryd.ntmps11
    go_wp2_with fail
    go_ret
    exact ⟨rfl, Below.refl _ _⟩
  by_cases hs1 : 1048576 < s1.size
  · go_enter Tryd.func11, Tryd.ntmps11
    go_wp2_with fail
    go_ret
    exact ⟨rfl, Below.refl _ _⟩
  have C1 : Hid (∀ W : World, Calls Tryd.prog 45 #[.string s0, .string s1] W (RetPB (parN s0 s1) (parR s0 s1) (parP s0 s1) W)) := fun W => ParsePolicy_s s0 s1 W (by omega) (by omega)
  have C2 : Hid (∀ W : World, GM W → Calls Tryd.prog 46 #[.string s0, .string s1] W (RetPB (parN s0 s1) (parR s0 s1) (parP s0 s1) W)) := fun W hg => ParsePolicy_i s0 s1 W hg (by omega)
  have hlen := parR_len s0 s1
  generalize parN s0 s1 = N at C1 C2
  generalize parR s0 s1 = S at C1 C2 hlen
  generalize parP s0 s1 = R at C1 C2
  have CE := hide fun (A A2 : Option Addr) (c c2 : Nat) (W : World) (h : Rd W W.heap.size 2 A S.length (rC S)) (h2 : Rd W W.heap.size 2 A2 S.length (rC S)) => eqPolicy_c N A A2 c c2 S W h h2
  have CH := hide fun (A : Option Addr) (c : Nat) (W : World) (h : Rd W W.heap.size 2 A S.length (rC (mrkR 1 S.length))) => heldPolicy_c N A c S.length 1 W h (by omega) (by omega)
  have hRR : (R != R) = false := by simp
  go_enter Tryd.func11, Tryd.ntmps11
  go_wp2_with fail
  refine (C1.out _).mono ?_
  rintro e w1 ⟨A1, c1, rfl, hc1, ho1, hb1⟩
  have HR1 := hide (own_rd ho1)
  have La := Blk.new w1 38 #[.string N, .slice A1 S.length c1]
  have HB1 : Hid (Below w.heap.size w (w1.alloc (.cells #[.string N, .slice A1 S.length c1] 38))) := hb1.alloc hb1.size _
  have hz1 := hb1.size
  have HC2 := hide (C2.out (w1.alloc (.cells #[.string N, .slice A1 S.length c1] 38)) (hg.up HB1.out))
  clear ho1 hb1
  go_wp2_with fail
  refine HC2.out.mono ?_
  rintro e w2 ⟨A2, c2, rfl, hc2, ho2, hb2⟩
  simp only [World.size_alloc] at ho2 hb2
  have hz2 := hb2.size
  simp only [World.size_alloc] at hz2
  obtain ⟨La, _, _, hla⟩ := La.step (by simpa using hb2)
  have HO2 := hide (Ow.of_own ho2)
  have HB2 : Hid (Below w.heap.size w (w2.alloc (.cells #[.string N, .slice A2 S.length c2] 38))) := (HB1.out.trans (hb2.mono (by omega))).alloc (by omega) _
  have Lx := Blk.new w2 38 #[.string N, .slice A2 S.length c2]
  replace La := La.alloc (.cells #[.string N, .slice A2 S.length c2] 38)
  have HX1 : Hid (Rd (w2.alloc (.cells #[.string N, .slice A2 S.length c2] 38)) w1.heap.size 2 A1 S.length (rC S)) := ((HR1.out.below (B := w1.heap.size) (by repeat (first | with_reducible exact Below.refl _ _ | with_reducible assumption | refine Below.alloc ?_ (by first | omega | (simp; done) | (simp; omega)) _ | refine Below.setCell ?_ (by first | omega | (simp; done) | (simp; omega)) _ | refine Below.drew ?_ | refine below_drewN ?_ _ | exact Below.refl _ _ | assumption)) (Nat.le_refl _)).below hb2 (by omega)).below (B := w2.heap.size) (by repeat (first | with_reducible exact Below.refl _ _ | with_reducible assumption | refine Below.alloc ?_ (by first | omega | (simp; done) | (simp; omega)) _ | refine Below.setCell ?_ (by first | omega | (simp; done) | (simp; omega)) _ | refine Below.drew ?_ | refine below_drewN ?_ _ | exact Below.refl _ _ | assumption)) (by omega)
  have HX2 : Hid (Ow (w2.alloc (.cells #[.string N, .slice A2 S.length c2] 38)) (w1.heap.size + 1) w2.heap.size 43 2 A2 S.length (rC S)) := HO2.out.below (B := w2.heap.size) (by repeat (first | with_reducible exact Below.refl _ _ | with_reducible assumption | refine Below.alloc ?_ (by first | omega | (simp; done) | (simp; omega)) _ | refine Below.setCell ?_ (by first | omega | (simp; done) | (simp; omega)) _ | refine Below.drew ?_ | refine below_drewN ?_ _ | exact Below.refl _ _ | assumption)) (Nat.le_refl _)
  have HCE := hide (CE.out A2 A1 c2 c1 (w2.alloc (.cells #[.string N, .slice A2 S.length c2] 38)) (HX2.out.rd.mono (by simp)) (HX1.out.mono (by simp; omega)))
  have ca := La.cell
  have cx := Lx.cell
  clear ho2 hb2 HR1 HC2 HO2
  go_wp2_with fail
  refine HCE.out.mono ?_
  rintro e w3 ⟨rfl, hb3⟩
  have HB3 := hide (then_ HB2.out hb3 HB2.out.size)
  obtain ⟨La, ca, _, _⟩ := La.step hb3
  obtain ⟨Lx, cx, _, _⟩ := Lx.step hb3
  have hz3 := hb3.size
  simp only [World.size_alloc] at hz3
  have HX1 := hide (HX1.out.below hb3 (by simp; omega))
  have HX2 := hide (HX2.out.below hb3 (by simp))
  have HM := hide (markPolicy_c N A2 c2 S w3 (w1.heap.size + 1) w2.heap.size 1 HX2.out (by omega) (by omega) (by omega))
  clear hb3 HCE
  go_wp2_with fail
  refine HM.out.mono ?_
  rintro e w4 ⟨rfl, how4, hT4⟩
  have hb4 : Below (w1.heap.size + 1) w3 w4 := hT4.below (by omega)
  have HB4 := hide (HB3.out.trans (hb4.mono (by omega)))
  have hz4 := hb4.size
  have La : Blk w4 w1.heap.size 38 #[.string N, .slice A1 S.length c1] := La.below hb4 (by omega)
  have Lx : Blk w4 w2.heap.size 38 #[.string N, .slice A2 S.length c2] := (hT4.block _ Lx.lt (by omega)).trans Lx
  have ca := La.cell
  have cx := Lx.cell
  have HX1 := hide (HX1.out.below hb4 (by omega))
  have HX2 := hide (how4.rd.mono (show w2.heap.size ≤ w4.heap.size by omega))
  have HH := hide (CH.out A2 c2 w4 HX2.out)
  generalize hN : 1 + 2 * S.length = M at HH
  have hN0 : ¬ (M : Int) < 0 := by omega
  have HN := hide hN
  clear hb4 hT4 how4 HM hN
  go_wp2_with fail
  refine HH.out.mono ?_
  rintro e w5 ⟨rfl, hb5⟩
  have HB5 := hide (then_ HB4.out hb5 HB4.out.size)
  obtain ⟨La, ca, _, _⟩ := La.step hb5
  obtain ⟨Lx, cx, _, _⟩ := Lx.step hb5
  have hz5 := hb5.size
  have HX1 := hide (HX1.out.below hb5 (by omega))
  have HX2 := hide (HX2.out.up hb5)
  have HC2 := hide (C2.out w5 (hg.up HB5.out))
  clear hb5 HH
  go_wp2_with fail
  refine HC2.out.mono ?_
  rintro e w6 ⟨A6, c6, rfl, hc6, ho6, hb6⟩
  have hz6 := hb6.size
  have HB6 : Hid (Below w.heap.size w (w6.alloc (.cells #[.string N, .slice A6 S.length c6] 38))) := (then_ HB5.out hb6 HB5.out.size).alloc (by omega) _
  obtain ⟨La, _, _, _⟩ := La.step hb6
  obtain ⟨Lx, _, _, _⟩ := Lx.step hb6
  have Lh := Blk.new w6 38 #[.string N, .slice A6 S.length c6]
  replace La := La.alloc (.cells #[.string N, .slice A6 S.length c6] 38)
  replace Lx := Lx.alloc (.cells #[.string N, .slice A6 S.length c6] 38)
  have HX1 := hide ((HX1.out.below hb6 (by omega)).below (B := w6.heap.size) (w' := w6.alloc (.cells #[.string N, .slice A6 S.length c6] 38)) (by repeat (first | with_reducible exact Below.refl _ _ | with_reducible assumption | refine Below.alloc ?_ (by first | omega | (simp; done) | (simp; omega)) _ | refine Below.setCell ?_ (by first | omega | (simp; done) | (simp; omega)) _ | refine Below.drew ?_ | refine below_drewN ?_ _ | exact Below.refl _ _ | assumption)) (by omega))
  have HX2 := hide ((HX2.out.up hb6).below (B := w6.heap.size) (w' := w6.alloc (.cells #[.string N, .slice A6 S.length c6] 38)) (by repeat (first | with_reducible exact Below.refl _ _ | with_reducible assumption | refine Below.alloc ?_ (by first | omega | (simp; done) | (simp; omega)) _ | refine Below.setCell ?_ (by first | omega | (simp; done) | (simp; omega)) _ | refine Below.drew ?_ | refine below_drewN ?_ _ | exact Below.refl _ _ | assumption)) (Nat.le_refl _))
  have HX6 := hide ((own_rd ho6).below (B := w6.heap.size) (w' := w6.alloc (.cells #[.string N, .slice A6 S.length c6] 38)) (by repeat (first | with_reducible exact Below.refl _ _ | with_reducible assumption | refine Below.alloc ?_ (by first | omega | (simp; done) | (simp; omega)) _ | refine Below.setCell ?_ (by first | omega | (simp; done) | (simp; omega)) _ | refine Below.drew ?_ | refine below_drewN ?_ _ | exact Below.refl _ _ | assumption)) (Nat.le_refl _))
  have HCE := hide (CE.out A6 A1 c6 c1 (w6.alloc (.cells #[.string N, .slice A6 S.length c6] 38)) (HX6.out.mono (by simp)) (HX1.out.mono (by simp; omega)))
  have ca := La.cell
  have cx := Lx.cell
  have ch := Lh.cell
  clear ho6 hb6 HC2
  go_wp2_with fail
  refine HCE.out.mono ?_
  rintro e w7 ⟨rfl, hb7⟩
  have HB7 := hide (then_ HB6.out hb7 HB6.out.size)
  obtain ⟨Lx, cx, _, _⟩ := Lx.step hb7
  have hHH := CH.out A2 c2 w7 ((HX2.out.mono (by simp)).up hb7)
  rw [HN.out] at hHH
  have HH := hide hHH
  clear hb7 HCE hHH ca ch
  go_wp2_with fail
  refine HH.out.mono ?_
  rintro e w8 ⟨rfl, hb8⟩
  have HB8 := hide (then_ HB7.out hb8 HB7.out.size)
  clear hb8
  go_wp2_with fail
  go_ret
  exact ⟨rfl, HB8.out⟩
end Go.Proofs.YtlhhdpjnoainiabDoor
