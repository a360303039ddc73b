/- Two drawn policies, and a drawn policy with a path; each contract says for which arguments. -/
import Derived.Test.YtmjmjloiblbhcaaDoorC16
namespace Go.Proofs.YtmjmjloiblbhcaaDoor
open Go.RowKit
set_option maxRecDepth 100000
set_option maxHeartbeats 1000000
/-- two drawn policies, in new memory -/
def RetDM (w : World) (en : Ending) (w' : World) : Prop :=
  ∃ (nA : ByteArray) (A : Option Addr) (cA : Nat) (a : List Rl) (nB : ByteArray) (B : Option Addr) (cB : Nat) (b : List Rl), nA.size ≤ 13 ∧ (∀ r ∈ a, r.1.size ≤ 200) ∧ nB.size ≤ 13 ∧ (∀ r ∈ b, r.1.size ≤ 200) ∧ en = .returned (.tuple #[.agg #[.string nA, .slice A a.length cA], .agg #[.string nB, .slice B b.length cB]]) ∧ Rd w' w'.heap.size 2 A a.length (rC a) ∧ Rd w' w'.heap.size 2 B b.length (rC b) ∧ Below w.heap.size w w'
/-- a drawn policy and a drawn path -/
def RetDR (w : World) (en : Ending) (w' : World) : Prop :=
  ∃ (nm : ByteArray) (A : Option Addr) (k c : Nat) (s : ByteArray), s.size ≤ 200 ∧ en = .returned (.tuple #[.agg #[.string nm, .slice A k c], .string s]) ∧ Below w.heap.size w w'
theorem DrawMergePolicy_c (A : Option Addr) (n c : Nat) (l : List UInt8) (w : World) (hr : Rd w w.heap.size 1 A n (bC l)) (hn : n ≤ 1048576) : Calls Tryd.prog 22 #[.slice A n c] w (RetDM w) := by
  have C0 := hide (new1_c A n c l (.cells #[.string ⟨#[]⟩, .slice none 0 0] 26) (w.alloc (.cells #[.string ⟨#[]⟩, .slice none 0 0] 26)) ((hr.below (B := w.heap.size) (by repeat (first | with_reducible exact Below.refl _ _ | with_reducible assumption | refine Below.alloc ?_ (by first | omega | (simp; done) | (simp; omega)) _ | refine Below.setCell ?_ (by first | omega | (simp; done) | (simp; omega)) _ | refine Below.drew ?_ | refine below_drewN ?_ _ | exact Below.refl _ _ | assumption)) (Nat.le_refl _)).mono (by simp)) hn)
  clear hr
  go_enter Tryd.func22, Tryd.ntmps22
  go_wp2_with fail
  refine C0.out.mono ?_
  rintro e w1 ⟨rfl, hc1, hb1⟩
  simp only [World.size_alloc] at hc1 hb1 ⊢
  have HB1 : Hid (Below w.heap.size w w1) := Below.trans (b := (w.alloc (.cells #[.string ⟨#[]⟩, .slice none 0 0] 26)).alloc (.cells #[.string ⟨#[]⟩, .slice none 0 0] 26)) (by repeat (first | with_reducible exact Below.refl _ _ | with_reducible assumption | refine Below.alloc ?_ (by first | omega | (simp; done) | (simp; omega)) _ | refine Below.setCell ?_ (by first | omega | (simp; done) | (simp; omega)) _ | refine Below.drew ?_ | refine below_drewN ?_ _ | exact Below.refl _ _ | assumption)) (hb1.mono (by omega))
  have HR1 : Hid (Blk w1 w.heap.size 26 #[.string ⟨#[]⟩, .slice none 0 0]) := ((Blk.new w _ _).alloc _).below hb1 (by omega)
  have HQ1 : Hid (Blk w1 (w.heap.size + 1) 26 #[.string ⟨#[]⟩, .slice none 0 0]) := (Blk.new1 w _ _ _).below hb1 (by omega)
  have hcl := hc1.lt
  have HC1 := hide hc1
  have hsz := hb1.size
  simp only [World.size_alloc] at hsz
  clear hb1 hc1 C0
  go_wp2_with fail
  refine (l01Size_c A n c 16 w1 hn (by omega)).mono ?_
  rintro e w2 ⟨m, hm, rfl, rfl⟩
  have C3 := hide (l01Below_c (m : Int) (w.heap.size + 1 + 1) (w.heap.size + 1 + 1) w2 HC1.out (by omega))
  go_wp2_with fail
  refine C3.out.mono ?_
  rintro e w3 ⟨r, ⟨_, _, r1⟩, rfl, hc3, hm3⟩
  have C4 := hide (l02DrawPolicy_c r (w.heap.size + 1 + 1) (w.heap.size + 1 + 1) w3 hc3 (by omega))
  have HM3 := hide hm3
  have hs3 := hm3.size
  clear hc3 hm3 r1 C3 HC1
  go_wp2_with fail
  refine C4.out.mono ?_
  rintro e w4 ⟨nA, A4, k4, c4, a, hnA, hk4, hkc4, ha, rfl, ho4, hc4, hm4⟩
  obtain rfl := rs_len ho4
  have HM4 := hide (HM3.out.trans hm4)
  have HO4 := hide (Ow.of_own ho4)
  have hs4 := hm4.size
  have C5 := hide (l01Below_c (m : Int) (w.heap.size + 1 + 1) (w.heap.size + 1 + 1) w4 hc4 (by omega))
  have HNA := hide (And.intro hnA ha)
  clear ho4 hc4 hm4 C4 HM3 hnA ha hk4 hkc4
  go_wp2_with fail
  refine C5.out.mono ?_
  rintro e w5 ⟨r5, ⟨_, _, r51⟩, rfl, hc5, hm5⟩
  have C6 := hide (l02DrawPolicy_c r5 (w.heap.size + 1 + 1) (w.heap.size + 1 + 1) w5 hc5 (by omega))
  have HM5 := hide (HM4.out.trans hm5)
  have HO5 := hide (hm5.ow HO4.out (by omega) (Nat.le_refl _))
  have hs5 := hm5.size
  clear hc5 hm5 r51 C5 HM4 HO4
  go_wp2_with fail
  refine C6.out.mono ?_
  rintro e w6 ⟨nB, A6, k6, c6, b, hnB, hk6, hkc6, hb, rfl, ho6, hc6, hm6⟩
  obtain rfl := rs_len ho6
  have HM6 := hide (HM5.out.trans hm6)
  have HO6 := hide (Ow.of_own ho6)
  have HO5 := hide (hm6.ow HO5.out (by omega) (by omega))
  have hs6 := hm6.size
  have HR6 : Hid (Blk w6 w.heap.size 26 #[.string ⟨#[]⟩, .slice none 0 0]) := (HM6.out.block w.heap.size HR1.out.lt (by omega)).trans HR1.out
  have HQ6 : Hid (Blk w6 (w.heap.size + 1) 26 #[.string ⟨#[]⟩, .slice none 0 0]) := (HM6.out.block (w.heap.size + 1) HQ1.out.lt (by omega)).trans HQ1.out
  have hlr := HR6.out.lt
  have hlq := HQ6.out.lt
  have qR := HR6.out.cell
  have fR := HR6.out.frozen
  have qQ := HQ6.out.cell
  have fQ := HQ6.out.frozen
  have HBB : Hid (Below w.heap.size w w6) := HB1.out.trans (HM6.out.below2 (by omega) (by omega))
  have HNB := hide (And.intro hnB hb)
  clear ho6 hc6 hm6 C6 HM5 hnB hb hk6 hkc6
  go_wp2_with fail
  have HRX := hide ((((HR6.out.set' 0 (.string nA)).set' 1 (.slice A4 a.length c4)).far (p := ⟨w.heap.size + 1, 0, none⟩) (by simp) (.string nB)).far (p := ⟨w.heap.size + 1, 1, none⟩) (by simp) (.slice A6 b.length c6))
  have HQX := hide ((((HQ6.out.far (p := ⟨w.heap.size, 0, none⟩) (by simp) (.string nA)).far (p := ⟨w.heap.size, 1, none⟩) (by simp) (.slice A4 a.length c4)).set' 0 (.string nB)).set' 1 (.slice A6 b.length c6))
  have qS : ∀ i, ((((w6.setCell ⟨w.heap.size, 0, none⟩ (.string nA)).setCell ⟨w.heap.size, 1, none⟩ (.slice A4 a.length c4)).setCell ⟨w.heap.size + 1, 0, none⟩ (.string nB)).setCell ⟨w.heap.size + 1, 1, none⟩ (.slice A6 b.length c6)).cell? ⟨w.heap.size, i, none⟩ = (#[.string nA, .slice A4 a.length c4] : Array Value)[i]? := HRX.out.cell
  have qT : ∀ i, ((((w6.setCell ⟨w.heap.size, 0, none⟩ (.string nA)).setCell ⟨w.heap.size, 1, none⟩ (.slice A4 a.length c4)).setCell ⟨w.heap.size + 1, 0, none⟩ (.string nB)).setCell ⟨w.heap.size + 1, 1, none⟩ (.slice A6 b.length c6)).cell? ⟨w.heap.size + 1, i, none⟩ = (#[.string nB, .slice A6 b.length c6] : Array Value)[i]? := HQX.out.cell
  refine bodyPost_ret (v := .tuple #[.agg #[.string nA, .slice A4 a.length c4], .agg #[.string nB, .slice A6 b.length c6]]) (by simp [results, Tryd.results22, go_sem, qS, qT]) rfl ?_
  refine ⟨nA, A4, c4, a, nB, A6, c6, b, HNA.out.1, HNA.out.2, HNB.out.1, HNB.out.2, rfl, ?_, ?_, (((HBB.out.setCell (Nat.le_refl _) _).setCell (Nat.le_refl _) _).setCell (by simp) _).setCell (by simp) _⟩
  · exact ((((HO5.out.far (p := ⟨w.heap.size, 0, none⟩) (by left; show w.heap.size < w3.heap.size; omega) _).far (p := ⟨w.heap.size, 1, none⟩) (by left; show w.heap.size < w3.heap.size; omega) _).far (p := ⟨w.heap.size + 1, 0, none⟩) (by left; show w.heap.size + 1 < w3.heap.size; omega) _).far (p := ⟨w.heap.size + 1, 1, none⟩) (by left; show w.heap.size + 1 < w3.heap.size; omega) _).rd.mono (by simp only [World.size_setCell]; omega)
  · exact ((((HO6.out.far (p := ⟨w.heap.size, 0, none⟩) (by left; show w.heap.size < w5.heap.size; omega) _).far (p := ⟨w.heap.size, 1, none⟩) (by left; show w.heap.size < w5.heap.size; omega) _).far (p := ⟨w.heap.size + 1, 0, none⟩) (by left; show w.heap.size + 1 < w5.heap.size; omega) _).far (p := ⟨w.heap.size + 1, 1, none⟩) (by left; show w.heap.size + 1 < w5.heap.size; omega) _).rd.mono (by simp only [World.size_setCell]; omega)
theorem DrawRuleFor_c (A : Option Addr) (n c : Nat) (l : List UInt8) (w : World) (hr : Rd w w.heap.size 1 A n (bC l)) (hn : n ≤ 1048576) : Calls Tryd.prog 23 #[.slice A n c] w (RetDR w) := by
  have C0 := hide (new1_c A n c l (.cells #[.string ⟨#[]⟩, .slice none 0 0] 26) w hr hn)
  clear hr
  go_enter Tryd.func23, Tryd.ntmps23
  go_wp2_with fail
  refine C0.out.mono ?_
  rintro e w1 ⟨rfl, hc1, hb1⟩
  have HB1 : Hid (Below w.heap.size w w1) := Below.trans (b := w.alloc (.cells #[.string ⟨#[]⟩, .slice none 0 0] 26)) (by repeat (first | with_reducible exact Below.refl _ _ | with_reducible assumption | refine Below.alloc ?_ (by first | omega | (simp; done) | (simp; omega)) _ | refine Below.setCell ?_ (by first | omega | (simp; done) | (simp; omega)) _ | refine Below.drew ?_ | refine below_drewN ?_ _ | exact Below.refl _ _ | assumption)) (hb1.mono (by omega))
  have HR1 : Hid (Blk w1 w.heap.size 26 #[.string ⟨#[]⟩, .slice none 0 0]) := (Blk.new w _ _).below hb1 (by omega)
  have HC1 := hide hc1
  have hsz := hb1.size
  simp only [World.size_alloc] at hsz
  clear hb1 hc1 C0
  go_wp2_with fail
  refine (l01Size_c A n c 14 w1 hn (by omega)).mono ?_
  rintro e w2 ⟨m, hm, rfl, rfl⟩
  have C3 := hide (l01Below_c (m : Int) (w.heap.size + 1) (w.heap.size + 1) w2 HC1.out (by omega))
  go_wp2_with fail
  refine C3.out.mono ?_
  rintro e w3 ⟨r, ⟨_, _, r1⟩, rfl, hc3, hm3⟩
  have C4 := hide (l02DrawPolicy_c r (w.heap.size + 1) (w.heap.size + 1) w3 hc3 (by omega))
  have HM3 := hide hm3
  have hs3 := hm3.size
  clear hc3 hm3 r1 C3 HC1
  go_wp2_with fail
  refine C4.out.mono ?_
  rintro e w4 ⟨nA, A4, k4, c4, a, hnA, hk4, hkc4, ha, rfl, ho4, hc4, hm4⟩
  have HM4 := hide (HM3.out.trans hm4)
  have C5 := hide (l01DrawPath_c (w.heap.size + 1) (w.heap.size + 1) w4 hc4)
  clear ho4 hc4 hm4 C4 HM3 hnA ha hk4
  go_wp2_with fail
  refine C5.out.mono ?_
  rintro e w5 ⟨s, hs, rfl, hc5, hm5⟩
  have HM5 := hide (HM4.out.trans hm5)
  have hs5 := HM5.out.size
  have HR5 : Hid (Blk w5 w.heap.size 26 #[.string ⟨#[]⟩, .slice none 0 0]) := (HM5.out.block w.heap.size HR1.out.lt (by omega)).trans HR1.out
  have HBB : Hid (Below w.heap.size w w5) := HB1.out.trans (HM5.out.below2 (by omega) (by omega))
  have hlr := HR5.out.lt
  have qR := HR5.out.cell
  have fR := HR5.out.frozen
  have HRX := hide ((HR5.out.set' 0 (.string nA)).set' 1 (.slice A4 k4 c4))
  clear hc5 hm5 C5 HM4
  go_wp2_with fail
  have qS : ∀ i, ((w5.setCell ⟨w.heap.size, 0, none⟩ (.string nA)).setCell ⟨w.heap.size, 1, none⟩ (.slice A4 k4 c4)).cell? ⟨w.heap.size, i, none⟩ = (#[.string nA, .slice A4 k4 c4] : Array Value)[i]? := HRX.out.cell
  refine bodyPost_ret (v := .tuple #[.agg #[.string nA, .slice A4 k4 c4], .string s]) (by simp [results, Tryd.results23, go_sem, qS]) rfl ?_
  exact ⟨nA, A4, k4, c4, s, hs, rfl, (HBB.out.setCell (Nat.le_refl _) _).setCell (Nat.le_refl _) _⟩
end Go.Proofs.YtmjmjloiblbhcaaDoor
