/- The law of MergePolicy: it returns true; the contract says for which arguments. -/
import Derived.Test.YtmjmjloiblbhcaaDoorC13
import Derived.Test.YtmjmjloiblbhcaaDoorC23
import Derived.Test.YtmjmjloiblbhcaaDoorC24
import Derived.Deep.RegionHeld3
namespace Go.Proofs.YtmjmjloiblbhcaaDoor
open Go.RowKit
set_option maxRecDepth 100000
set_option maxHeartbeats 4000000
theorem mgR_len (nA nB : ByteArray) (a b : List Rl) : (mgR nA nB a b).length ≤ 20 := by
  unfold mgR
  split
  · rename_i h
    simp only [mgOk, Bool.and_eq_true] at h
    exact (polB_true.1 h.2).2.1
  · simp
theorem alloc_lt {w : World} {o : Obj} {n : Nat} (h : (w.alloc o).heap.size ≤ n) : w.heap.size < n := by
  rw [World.size_alloc] at h
  exact h
/-- a policy and a bit, in new memory -/
def RetPZ (N : ByteArray) (S : List Rl) (R : Bool) (w : World) (en : Ending) (w' : World) : Prop :=
  ∃ A c, en = .returned (.tuple #[.agg #[.string N, .slice A S.length c], .bool R]) ∧ S.length ≤ c ∧ w'.ownsRow w.heap.size 53 2 (.slice A S.length c) S.length (rC S) ∧ Below w.heap.size w w'
/-- a box that holds a policy -/
def PolAt (w0 : World) (N : ByteArray) (S : List Rl) (p : Value) (wx : World) : Prop :=
  ∃ g A1 c1, p = .pointer (some ⟨g, 0, none⟩) ∧ w0.heap.size ≤ g ∧ Blk wx g 26 #[.string N, .slice A1 S.length c1] ∧ Rd wx wx.heap.size 2 A1 S.length (rC S) ∧ Below w0.heap.size w0 wx
theorem PolAt.mk1 {w0 w5 : World} {N : ByteArray} {S : List Rl} {A5 : Option Addr} {c5 : Nat} {b : Nat} (h : Below w0.heap.size w0 w5) (ho : w5.ownsRow b 53 2 (.slice A5 S.length c5) S.length (rC S)) :
    PolAt w0 N S (.pointer (some ⟨w5.heap.size, 0, none⟩)) (w5.alloc (.cells #[.string N, .slice A5 S.length c5] 26)) :=
  ⟨_, A5, c5, rfl, h.size, Blk.new _ _ _, ((own_rd ho).below ((Below.refl w5.heap.size w5).alloc (Nat.le_refl _) _) (Nat.le_refl _)).mono (by simp), h.alloc h.size _⟩
theorem PolAt.mk2 {w0 w5 : World} {N : ByteArray} {S : List Rl} {A5 : Option Addr} {c5 : Nat} {b g : Nat} {cs : Array Value} (h : Below w0.heap.size w0 w5) (hg : w0.heap.size ≤ g) (hb : g < b) (hM : Blk w5 g 26 cs) (hcs : cs = #[.string ⟨#[]⟩, .slice none 0 0]) (ho : w5.ownsRow b 53 2 (.slice A5 S.length c5) S.length (rC S)) :
    PolAt w0 N S (.pointer (some ⟨g, 0, none⟩)) ((w5.setCell ⟨g, 0, none⟩ (.string N)).setCell ⟨g, 1, none⟩ (.slice A5 S.length c5)) := by
  subst hcs
  exact ⟨g, A5, c5, rfl, hg, (hM.set' 0 (.string N)).set' 1 (.slice A5 S.length c5), own_rd (ownsRow_setCell_below (ownsRow_setCell_below ho hb _) hb _), (h.setCell hg _).setCell hg _⟩
theorem fnExactMergePolicy_walk (nA : ByteArray) (A : Option Addr) (cA : Nat) (la : List Rl) (nB : ByteArray) (B : Option Addr) (cB : Nat) (lb : List Rl) (w : World) (hg : GM w) (hwA : nA.size ≤ 9223372036854775807 ∧ RdR w A cA la) (hwB : nB.size ≤ 9223372036854775807 ∧ RdR w B cB lb) :
    Calls Tryd.prog 4 #[.agg #[.string nA, .slice A la.length cA], .agg #[.string nB, .slice B lb.length cB]] w (RetV (.bool true) w) := by
  obtain ⟨hnA, _, _, hrA, hesA⟩ := hwA
  obtain ⟨hnB, _, _, hrB, hesB⟩ := hwB
  have CZA := hide fun (W : World) (hb : Below w.heap.size w W) => szPolicy_c nA A cA la 1048576 W (hrA.up hb) (fun x hx => (hesA x hx).1) hnA (by omega)
  have CZB := hide fun (X : Nat) (hX : X ≤ 1048576) (W : World) (hb : Below w.heap.size w W) => szPolicy_c nB B cB lb X W (hrB.up hb) (fun x hx => (hesB x hx).1) hnB hX
  clear hesA hesB
  by_cases hleA : szP nA la ≤ 1048576
  case neg =>
    have CZ2 := hide fun (W : World) (hb : Below w.heap.size w W) => by have := CZA.out W hb; rw [if_neg hleA] at this; exact this
    clear CZA CZB hleA
    go_enter Tryd.func4, Tryd.ntmps4
    go_wp2_with fail
    refine (CZ2.out _ (by repeat (first | with_reducible exact Below.refl _ _ | with_reducible assumption | refine Below.alloc ?_ (by first | omega | (simp; done) | (simp; omega)) _ | refine Below.setCell ?_ (by first | omega | (simp; done) | (simp; omega)) _ | refine Below.drew ?_ | refine below_drewN ?_ _ | exact Below.refl _ _ | assumption))).mono ?_
    rintro e w1 ⟨rfl, hb1⟩
    have hb01 : Below w.heap.size w w1 := then_ (by repeat (first | with_reducible exact Below.refl _ _ | with_reducible assumption | refine Below.alloc ?_ (by first | omega | (simp; done) | (simp; omega)) _ | refine Below.setCell ?_ (by first | omega | (simp; done) | (simp; omega)) _ | refine Below.drew ?_ | refine below_drewN ?_ _ | exact Below.refl _ _ | assumption)) hb1 (by first | omega | (simp; done) | (simp; omega))
    go_wp2_with fail
    go_ret
    exact ⟨rfl, hb01⟩
  have CZ2 := hide fun (W : World) (hb : Below w.heap.size w W) => by have := CZA.out W hb; rw [if_pos hleA] at this; exact this
  obtain ⟨X, hX⟩ : ∃ X, X = 1048576 - szP nA la := ⟨_, rfl⟩
  rw [← hX] at CZ2
  have CZB := hide (CZB.out X (by omega))
  have hszA : nA.size + (la.length + szR la) ≤ 1048576 := hleA
  by_cases hleB : szP nB lb ≤ X
  case neg =>
    have CZ3 := hide fun (W : World) (hb : Below w.heap.size w W) => by have := CZB.out W hb; rw [if_neg hleB] at this; exact this
    clear CZA CZB hleA hleB hX hszA
    go_enter Tryd.func4, Tryd.ntmps4
    go_wp2_with fail
    refine (CZ2.out _ (by repeat (first | with_reducible exact Below.refl _ _ | with_reducible assumption | refine Below.alloc ?_ (by first | omega | (simp; done) | (simp; omega)) _ | refine Below.setCell ?_ (by first | omega | (simp; done) | (simp; omega)) _ | refine Below.drew ?_ | refine below_drewN ?_ _ | exact Below.refl _ _ | assumption))).mono ?_
    rintro e w1 ⟨rfl, hb1⟩
    have hb01 : Below w.heap.size w w1 := then_ (by repeat (first | with_reducible exact Below.refl _ _ | with_reducible assumption | refine Below.alloc ?_ (by first | omega | (simp; done) | (simp; omega)) _ | refine Below.setCell ?_ (by first | omega | (simp; done) | (simp; omega)) _ | refine Below.drew ?_ | refine below_drewN ?_ _ | exact Below.refl _ _ | assumption)) hb1 (by first | omega | (simp; done) | (simp; omega))
    have hs1 := hb1.size
    simp only [World.size_alloc] at hs1
    have Lb : Blk w1 (w.heap.size + 1) 40 #[.string nB, .slice B lb.length cB] := (Blk.new1 w _ 40 #[.string nB, .slice B lb.length cB]).below hb1 (by simp)
    have cb := Lb.cell
    clear hb1
    go_wp2_with fail
    refine (CZ3.out _ hb01).mono ?_
    rintro e w2 ⟨rfl, hb2⟩
    have hb02 : Below w.heap.size w w2 := then_ hb01 hb2 hb01.size
    go_wp2_with fail
    go_ret
    exact ⟨rfl, hb02⟩
  have CZ3 := hide fun (W : World) (hb : Below w.heap.size w W) => by have := CZB.out W hb; rw [if_pos hleB] at this; exact this
  obtain ⟨X2, hX2⟩ : ∃ X2, X2 = X - szP nB lb := ⟨_, rfl⟩
  rw [← hX2] at CZ3
  have hszB : nB.size + (lb.length + szR lb) ≤ 1048576 := Nat.le_trans hleB (by omega)
  have hzA : ∀ x ∈ la, x.1.size < 4294967281 := fun x hx => by have := szR_each hx; omega
  have hzB : ∀ x ∈ lb, x.1.size < 4294967281 := fun x hx => by have := szR_each hx; omega
  have CTA := hide fun (W : World) (hb : Below w.heap.size w W) => toPolicy_c nA A cA la W (hrA.up hb) (by omega)
  have CTB := hide fun (W : World) (hb : Below w.heap.size w W) => toPolicy_c nB B cB lb W (hrB.up hb) (by omega)
  have C1 : Hid (∀ (A1 A2 : Option Addr) (c1 c2 : Nat) (W : World), Rd W W.heap.size 2 A1 la.length (rC la) → Rd W W.heap.size 2 A2 lb.length (rC lb) → Calls Tryd.prog 16 #[.agg #[.string nA, .slice A1 la.length c1], .agg #[.string nB, .slice A2 lb.length c2]] W (RetPZ (mgN nA nB la lb) (mgR nA nB la lb) (mgOk nA nB la lb) W)) := fun A1 A2 c1 c2 W h1 h2 => MergePolicy_s nA nB A1 A2 c1 c2 la lb W h1 h2 hzA hzB (by omega) (by omega)
  have C2 : Hid (∀ (A1 A2 : Option Addr) (c1 c2 : Nat) (W : World), GM W → Rd W W.heap.size 2 A1 la.length (rC la) → Rd W W.heap.size 2 A2 lb.length (rC lb) → Calls Tryd.prog 18 #[.agg #[.string nA, .slice A1 la.length c1], .agg #[.string nB, .slice A2 lb.length c2]] W (RetPZ (mgN nA nB la lb) (mgR nA nB la lb) (mgOk nA nB la lb) W)) := fun A1 A2 c1 c2 W hg h1 h2 => MergePolicy_i nA nB A1 A2 c1 c2 la lb W hg h1 h2 hzA hzB
  have hlA : la.length ≤ 1048576 := by omega
  have hlB : lb.length ≤ 1048576 := by omega
  have hlen := mgR_len nA nB la lb
  clear CZA CZB hleA hleB hszA hszB hzA hzB hX hX2 hrA hrB
  generalize mgN nA nB la lb = N at C1 C2
  generalize mgR nA nB la lb = S at C1 C2 hlen
  generalize mgOk nA nB la lb = R at C1 C2
  have CEA := hide fun (A A2 : Option Addr) (c c2 : Nat) (W : World) (h : Rd W W.heap.size 2 A la.length (rC la)) (h2 : Rd W W.heap.size 2 A2 la.length (rC la)) => eqPolicy_c nA A A2 c c2 la W h h2
  have CEB := hide fun (A A2 : Option Addr) (c c2 : Nat) (W : World) (h : Rd W W.heap.size 2 A lb.length (rC lb)) (h2 : Rd W W.heap.size 2 A2 lb.length (rC lb)) => eqPolicy_c nB A A2 c c2 lb W h h2
  have CE := hide fun (A A2 : Option Addr) (c c2 : Nat) (W : World) (h : Rd W W.heap.size 2 A S.length (rC S)) (h2 : Rd W W.heap.size 2 A2 S.length (rC S)) => eqPolicy_c N A A2 c c2 S W h h2
  have CH := hide fun (A : Option Addr) (c : Nat) (W : World) (h : Rd W W.heap.size 2 A S.length (rC (mrkR 1 S.length))) => heldPolicy_c N A c S.length 1 W h (by omega) (by omega)
  have hRR : (R != R) = false := by simp
  go_enter Tryd.func4, Tryd.ntmps4
  go_wp2_with fail
  refine (CZ2.out _ (by repeat (first | with_reducible exact Below.refl _ _ | with_reducible assumption | refine Below.alloc ?_ (by first | omega | (simp; done) | (simp; omega)) _ | refine Below.setCell ?_ (by first | omega | (simp; done) | (simp; omega)) _ | refine Below.drew ?_ | refine below_drewN ?_ _ | exact Below.refl _ _ | assumption))).mono ?_
  rintro e w1 ⟨rfl, hb1⟩
  have hB : Below w.heap.size w w1 := then_ (by repeat (first | with_reducible exact Below.refl _ _ | with_reducible assumption | refine Below.alloc ?_ (by first | omega | (simp; done) | (simp; omega)) _ | refine Below.setCell ?_ (by first | omega | (simp; done) | (simp; omega)) _ | refine Below.drew ?_ | refine below_drewN ?_ _ | exact Below.refl _ _ | assumption)) hb1 (by first | omega | (simp; done) | (simp; omega))
  have hs1 := hb1.size
  simp only [World.size_alloc] at hs1
  have La : Blk w1 w.heap.size 40 #[.string nA, .slice A la.length cA] := ((Blk.new w 40 #[.string nA, .slice A la.length cA]).alloc _).below hb1 (by simp; omega)
  have Lb : Blk w1 (w.heap.size + 1) 40 #[.string nB, .slice B lb.length cB] := (Blk.new1 w _ 40 #[.string nB, .slice B lb.length cB]).below hb1 (by simp)
  have ca := La.cell
  have cb := Lb.cell
  clear hb1
  go_wp2_with fail
  refine (CZ3.out _ hB).mono ?_
  rintro e w2 ⟨rfl, hb2⟩
  replace hB : Below w.heap.size w w2 := then_ hB hb2 hB.size
  have hs2 := hb2.size
  have HLA := hide (La.below hb2 (by omega))
  have HLB := hide (Lb.below hb2 (by omega))
  have HB2 := hide hB
  clear ca cb La Lb hb2 CZ2 CZ3 hB
  go_upto_region 8 with fail
  go_cut [6, 7] (fun p q wx => PolAt w2 N S p wx ∧ q = .bool R)
  case first =>
    have q0 := HLA.out.cell 0
    have q1 := HLA.out.cell 1
    have q2 := HLB.out.cell 0
    have q3 := HLB.out.cell 1
    have hlb2 := HLB.out.lt
    go_region_held3 (fun w' => w'.cell? ⟨w.heap.size, 0, none⟩ = some (.string nA) ∧ w'.cell? ⟨w.heap.size, 1, none⟩ = some (.slice A la.length cA) ∧ w'.cell? ⟨w.heap.size + 1, 0, none⟩ = some (.string nB) ∧ w'.cell? ⟨w.heap.size + 1, 1, none⟩ = some (.slice B lb.length cB)) (exact ⟨cell_oldB (B := w2.heap.size) q0 (by repeat (first | with_reducible exact Below.refl _ _ | with_reducible assumption | refine Below.alloc ?_ (by first | omega | (simp; done) | (simp; omega)) _ | refine Below.setCell ?_ (by first | omega | (simp; done) | (simp; omega)) _ | refine Below.drew ?_ | refine below_drewN ?_ _ | exact Below.refl _ _ | assumption)) (by first | omega | (simp; done) | (simp; omega)), cell_oldB (B := w2.heap.size) q1 (by repeat (first | with_reducible exact Below.refl _ _ | with_reducible assumption | refine Below.alloc ?_ (by first | omega | (simp; done) | (simp; omega)) _ | refine Below.setCell ?_ (by first | omega | (simp; done) | (simp; omega)) _ | refine Below.drew ?_ | refine below_drewN ?_ _ | exact Below.refl _ _ | assumption)) (by first | omega | (simp; done) | (simp; omega)), cell_oldB (B := w2.heap.size) q2 (by repeat (first | with_reducible exact Below.refl _ _ | with_reducible assumption | refine Below.alloc ?_ (by first | omega | (simp; done) | (simp; omega)) _ | refine Below.setCell ?_ (by first | omega | (simp; done) | (simp; omega)) _ | refine Below.drew ?_ | refine below_drewN ?_ _ | exact Below.refl _ _ | assumption)) (by first | omega | (simp; done) | (simp; omega)), cell_oldB (B := w2.heap.size) q3 (by repeat (first | with_reducible exact Below.refl _ _ | with_reducible assumption | refine Below.alloc ?_ (by first | omega | (simp; done) | (simp; omega)) _ | refine Below.setCell ?_ (by first | omega | (simp; done) | (simp; omega)) _ | refine Below.drew ?_ | refine below_drewN ?_ _ | exact Below.refl _ _ | assumption)) (by first | omega | (simp; done) | (simp; omega))⟩) (first | (go_at_call 17; have hTm : Below w2.heap.size w2 _ := hT3; refine (CTB.out _ (then_ HB2.out (by repeat (first | with_reducible exact Below.refl _ _ | with_reducible assumption | refine Below.alloc ?_ (by first | omega | (simp; done) | (simp; omega)) _ | refine Below.setCell ?_ (by first | omega | (simp; done) | (simp; omega)) _ | refine Below.drew ?_ | refine below_drewN ?_ _ | exact Below.refl _ _ | assumption)) HB2.out.size)).mono ?_; rintro e w4 ⟨A4, c4, rfl, hc4, ho4, hb4⟩; have hT4 := then_ (w0 := w2) (B := w2.heap.size) (by repeat (first | with_reducible exact Below.refl _ _ | with_reducible assumption | refine Below.alloc ?_ (by first | omega | (simp; done) | (simp; omega)) _ | refine Below.setCell ?_ (by first | omega | (simp; done) | (simp; omega)) _ | refine Below.drew ?_ | refine below_drewN ?_ _ | exact Below.refl _ _ | assumption)) hb4 (by first | omega | (simp; done) | (simp; omega)); have hz4 := hT4.size; have hs4 : w3.heap.size ≤ w4.heap.size := Nat.le_trans (by first | omega | (simp; done) | (simp; omega)) hb4.size; have HR3 := hide ((HR3.out.below (B := w3.heap.size) (by repeat (first | with_reducible exact Below.refl _ _ | with_reducible assumption | refine Below.alloc ?_ (by first | omega | (simp; done) | (simp; omega)) _ | refine Below.setCell ?_ (by first | omega | (simp; done) | (simp; omega)) _ | refine Below.drew ?_ | refine below_drewN ?_ _ | exact Below.refl _ _ | assumption)) (Nat.le_refl _)).below hb4 (by first | omega | (simp; done) | (simp; omega))); have HR4 := hide (own_rd ho4); obtain ⟨hcl4, hfr4⟩ := bcell hb4; (try have hy4 : w3.heap.size < w4.heap.size := alloc_lt hb4.size)) | (go_at_call 17; refine (CTA.out _ (then_ HB2.out (by repeat (first | with_reducible exact Below.refl _ _ | with_reducible assumption | refine Below.alloc ?_ (by first | omega | (simp; done) | (simp; omega)) _ | refine Below.setCell ?_ (by first | omega | (simp; done) | (simp; omega)) _ | refine Below.drew ?_ | refine below_drewN ?_ _ | exact Below.refl _ _ | assumption)) HB2.out.size)).mono ?_; rintro e w3 ⟨A3, c3, rfl, hc3, ho3, hb3⟩; have hT3 := then_ (w0 := w2) (B := w2.heap.size) (by repeat (first | with_reducible exact Below.refl _ _ | with_reducible assumption | refine Below.alloc ?_ (by first | omega | (simp; done) | (simp; omega)) _ | refine Below.setCell ?_ (by first | omega | (simp; done) | (simp; omega)) _ | refine Below.drew ?_ | refine below_drewN ?_ _ | exact Below.refl _ _ | assumption)) hb3 (by first | omega | (simp; done) | (simp; omega)); have hz3 := hT3.size; have HR3 := hide (own_rd ho3); obtain ⟨hcl3, hfr3⟩ := bcell hb3; (try have hx3 : w2.heap.size < w3.heap.size := alloc_lt (show (w2.alloc (.cells #[.string ⟨#[]⟩, .slice none 0 0] 26)).heap.size ≤ w3.heap.size from hb3.size))) | (go_at_call 16; refine (C1.out A3 A4 c3 c4 _ ((HR3.out.below (B := w4.heap.size) (by repeat (first | with_reducible exact Below.refl _ _ | with_reducible assumption | refine Below.alloc ?_ (by first | omega | (simp; done) | (simp; omega)) _ | refine Below.setCell ?_ (by first | omega | (simp; done) | (simp; omega)) _ | refine Below.drew ?_ | refine below_drewN ?_ _ | exact Below.refl _ _ | assumption)) (by first | omega | (simp; done) | (simp; omega))).mono (by first | omega | (simp; done) | (simp; omega))) ((HR4.out.below (B := w4.heap.size) (by repeat (first | with_reducible exact Below.refl _ _ | with_reducible assumption | refine Below.alloc ?_ (by first | omega | (simp; done) | (simp; omega)) _ | refine Below.setCell ?_ (by first | omega | (simp; done) | (simp; omega)) _ | refine Below.drew ?_ | refine below_drewN ?_ _ | exact Below.refl _ _ | assumption)) (Nat.le_refl _)).mono (by first | omega | (simp; done) | (simp; omega)))).mono ?_; rintro e w5 ⟨A5, c5, rfl, hc5, ho5, hb5⟩; have hT5 := then_ (w0 := w2) (B := w2.heap.size) (by repeat (first | with_reducible exact Below.refl _ _ | with_reducible assumption | refine Below.alloc ?_ (by first | omega | (simp; done) | (simp; omega)) _ | refine Below.setCell ?_ (by first | omega | (simp; done) | (simp; omega)) _ | refine Below.drew ?_ | refine below_drewN ?_ _ | exact Below.refl _ _ | assumption)) hb5 (by first | omega | (simp; done) | (simp; omega)); have hz5 := hT5.size; (try have hx4 : w2.heap.size < w4.heap.size := Nat.lt_of_lt_of_le hx3 hs4); obtain ⟨hcl5, hfr5⟩ := bcell hb5))
    all_goals
      go_wp2_with fail
      go_meet
    case rel => exact ⟨PolAt.mk1 hT5 ho5, rfl⟩
    case rel => exact ⟨PolAt.mk2 hT5 hz4 (by show w4.heap.size < (w4.alloc (.cells #[.string ⟨#[]⟩, .slice none 0 0] 26)).heap.size; simp) ((Blk.new w4 26 #[.string ⟨#[]⟩, .slice none 0 0]).below hb5 (by simp)) rfl ho5, rfl⟩
    case rel => exact ⟨PolAt.mk2 hT5 hz3 hy4 (((Blk.new w3 26 #[.string ⟨#[]⟩, .slice none 0 0]).below hb4 (by simp)).below hb5 hy4) rfl ho5, rfl⟩
    case rel => exact ⟨PolAt.mk2 hT5 (Nat.le_refl _) hx4 ((((Blk.new w2 26 #[.string ⟨#[]⟩, .slice none 0 0]).drew.below hb3 (by show w2.heap.size < (w2.alloc (.cells #[.string ⟨#[]⟩, .slice none 0 0] 26)).heap.size; simp)).below hb4 hx3).below hb5 hx4) rfl ho5, rfl⟩
  case rest =>
    obtain ⟨⟨g, A1, c1, rfl, hg2, hbg, hrd, hbw⟩, rfl⟩ := hcut
    have hzx := hbw.size
    have HB2' := hide (Nat.le_trans HB2.out.size hzx)
    have hgx := hbg.lt
    have HB := hide (then_ HB2.out hbw HB2.out.size)
    have HA := hide (HLA.out.below hbw HLA.out.lt)
    have HL := hide (HLB.out.below hbw HLB.out.lt)
    have HG := hide hbg
    have HS := hide hrd
    have ca := HA.out.cell
    have hlbx := HL.out.lt
    clear hrd hbg hbw HB2 HLA HLB C1
    go_wp2_with fail
    refine (CTA.out _ HB.out).mono ?_
    rintro e w6 ⟨A6, c6, rfl, hc6, ho6, hb6⟩
    have hz6 := hb6.size
    have HB6 : Hid (Below w.heap.size w (w6.alloc (.cells #[.string nA, .slice A6 la.length c6] 26))) := (then_ HB.out hb6 HB.out.size).alloc (Nat.le_trans HB.out.size hz6) _
    have La := (HA.out.step hb6).1.alloc (.cells #[.string nA, .slice A6 la.length c6] 26)
    have Lb := (HL.out.step hb6).1.alloc (.cells #[.string nA, .slice A6 la.length c6] 26)
    have Lg := (HG.out.step hb6).1.alloc (.cells #[.string nA, .slice A6 la.length c6] 26)
    have Lx := Blk.new w6 26 #[.string nA, .slice A6 la.length c6]
    have HS6 : Hid (Rd (w6.alloc (.cells #[.string nA, .slice A6 la.length c6] 26)) wc.heap.size 2 A1 S.length (rC S)) := (HS.out.below hb6 (Nat.le_refl _)).below (B := w6.heap.size) (by repeat (first | with_reducible exact Below.refl _ _ | with_reducible assumption | refine Below.alloc ?_ (by first | omega | (simp; done) | (simp; omega)) _ | refine Below.setCell ?_ (by first | omega | (simp; done) | (simp; omega)) _ | refine Below.drew ?_ | refine below_drewN ?_ _ | exact Below.refl _ _ | assumption)) hz6
    have HX6 : Hid (Ow (w6.alloc (.cells #[.string nA, .slice A6 la.length c6] 26)) wc.heap.size w6.heap.size 53 2 A6 la.length (rC la)) := (Ow.of_own ho6).below (B := w6.heap.size) (by repeat (first | with_reducible exact Below.refl _ _ | with_reducible assumption | refine Below.alloc ?_ (by first | omega | (simp; done) | (simp; omega)) _ | refine Below.setCell ?_ (by first | omega | (simp; done) | (simp; omega)) _ | refine Below.drew ?_ | refine below_drewN ?_ _ | exact Below.refl _ _ | assumption)) (Nat.le_refl _)
    have cb := Lb.cell
    have HLa := hide La
    have HLb := hide Lb
    have HLg := hide Lg
    have HLx := hide Lx
    clear ho6 hb6 HA HL HG HS ca La Lb Lg Lx
    go_wp2_with fail
    refine (CTB.out _ HB6.out).mono ?_
    rintro e w7 ⟨A7, c7, rfl, hc7, ho7, hb7⟩
    have hz7 := hb7.size
    simp only [World.size_alloc] at hz7
    have HB7 : Hid (Below w.heap.size w (w7.alloc (.cells #[.string nB, .slice A7 lb.length c7] 26))) := (then_ HB6.out hb7 HB6.out.size).alloc (by have := HB6.out.size; simp only [World.size_alloc] at this; omega) _
    have HLa := hide ((HLa.out.step hb7).1.alloc (.cells #[.string nB, .slice A7 lb.length c7] 26))
    have HLb := hide ((HLb.out.step hb7).1.alloc (.cells #[.string nB, .slice A7 lb.length c7] 26))
    have HLg := hide ((HLg.out.step hb7).1.alloc (.cells #[.string nB, .slice A7 lb.length c7] 26))
    have HLx := hide ((HLx.out.step hb7).1.alloc (.cells #[.string nB, .slice A7 lb.length c7] 26))
    have HLy := hide (Blk.new w7 26 #[.string nB, .slice A7 lb.length c7])
    have HS7 : Hid (Rd (w7.alloc (.cells #[.string nB, .slice A7 lb.length c7] 26)) wc.heap.size 2 A1 S.length (rC S)) := (HS6.out.below hb7 (by simp; omega)).below (B := w7.heap.size) (by repeat (first | with_reducible exact Below.refl _ _ | with_reducible assumption | refine Below.alloc ?_ (by first | omega | (simp; done) | (simp; omega)) _ | refine Below.setCell ?_ (by first | omega | (simp; done) | (simp; omega)) _ | refine Below.drew ?_ | refine below_drewN ?_ _ | exact Below.refl _ _ | assumption)) (by omega)
    have HX7 : Hid (Ow (w7.alloc (.cells #[.string nB, .slice A7 lb.length c7] 26)) wc.heap.size w6.heap.size 53 2 A6 la.length (rC la)) := (HX6.out.below hb7 (by simp)).below (B := w7.heap.size) (by repeat (first | with_reducible exact Below.refl _ _ | with_reducible assumption | refine Below.alloc ?_ (by first | omega | (simp; done) | (simp; omega)) _ | refine Below.setCell ?_ (by first | omega | (simp; done) | (simp; omega)) _ | refine Below.drew ?_ | refine below_drewN ?_ _ | exact Below.refl _ _ | assumption)) (by omega)
    have ho7' := Ow.of_own ho7
    simp only [World.size_alloc] at ho7'
    have HY7 : Hid (Ow (w7.alloc (.cells #[.string nB, .slice A7 lb.length c7] 26)) (w6.heap.size + 1) w7.heap.size 53 2 A7 lb.length (rC lb)) := ho7'.below (B := w7.heap.size) (by repeat (first | with_reducible exact Below.refl _ _ | with_reducible assumption | refine Below.alloc ?_ (by first | omega | (simp; done) | (simp; omega)) _ | refine Below.setCell ?_ (by first | omega | (simp; done) | (simp; omega)) _ | refine Below.drew ?_ | refine below_drewN ?_ _ | exact Below.refl _ _ | assumption)) (Nat.le_refl _)
    have HX : Hid (MX 26 53 wc.heap.size w6.heap.size w7.heap.size #[.string nA, .slice A6 la.length c6] #[.string nB, .slice A7 lb.length c7] A6 A7 la.length lb.length (rC la) (rC lb) (w7.alloc (.cells #[.string nB, .slice A7 lb.length c7] 26))) := ⟨HLx.out, HLy.out, HX7.out, HY7.out, hz6, hz7⟩
    have HC := hide (C2.out A6 A7 c6 c7 _ (hg.up HB7.out) HX.out.rd1 HX.out.rd2)
    have cx := HLx.out.cell
    have cy := HLy.out.cell
    clear ho7 hb7 ho7' cb HS6 HX6 HX7 HY7 HB6 HLx HLy HB
    go_wp2_with fail
    refine HC.out.mono ?_
    rintro e w8 ⟨A8, c8, rfl, hc8, ho8, hb8⟩
    have hz8 := hb8.size
    simp only [World.size_alloc] at hz8
    have ho8' := Ow.of_own ho8
    simp only [World.size_alloc] at ho8'
    have HB8 : Hid (Below w.heap.size w (w8.alloc (.cells #[.string N, .slice A8 S.length c8] 26))) := (then_ HB7.out hb8 HB7.out.size).alloc (by have := HB7.out.size; simp only [World.size_alloc] at this; omega) _
    have hba : Below w8.heap.size w8 (w8.alloc (.cells #[.string N, .slice A8 S.length c8] 26)) := (by repeat (first | with_reducible exact Below.refl _ _ | with_reducible assumption | refine Below.alloc ?_ (by first | omega | (simp; done) | (simp; omega)) _ | refine Below.setCell ?_ (by first | omega | (simp; done) | (simp; omega)) _ | refine Below.drew ?_ | refine below_drewN ?_ _ | exact Below.refl _ _ | assumption))
    have HX8 := hide ((HX.out.up hb8).up hba)
    have HM8 : Hid (MA 40 26 53 w.heap.size g wc.heap.size (w7.heap.size + 1) w8.heap.size #[.string nA, .slice A la.length cA] #[.string nB, .slice B lb.length cB] #[.string N, .slice A1 S.length c1] #[.string N, .slice A8 S.length c8] A1 A8 S.length (rC S) (rC S) (w8.alloc (.cells #[.string N, .slice A8 S.length c8] 26))) := ⟨(HLa.out.step hb8).1.alloc _, (HLb.out.step hb8).1.alloc _, (HLg.out.step hb8).1.alloc _, Blk.new w8 _ _, (HS7.out.below hb8 (by simp; omega)).below hba (by omega), ho8'.below hba (Nat.le_refl _), hlbx, hgx, by omega, hz8⟩
    have HC := hide (CE.out A8 A1 c8 c1 _ HM8.out.rd2 HM8.out.rd1)
    have cz := HM8.out.lz.cell
    have cg := HM8.out.lg.cell
    clear ho8 hb8 ho8' cx cy HS7 HX HLa HLb HLg HB7 hba
    go_wp2_with fail
    refine HC.out.mono ?_
    rintro e w9 ⟨rfl, hb9⟩
    have HB := hide (then_ HB8.out hb9 HB8.out.size)
    have HX := hide (HX8.out.up hb9)
    have HM := hide (HM8.out.up hb9)
    clear hb9 cz cg HC HX8 HM8 HB8
    go_wp2_with fail
    have q0 := HM.out.la.cell 0
    have q1 := HM.out.la.cell 1
    have q2 := HX.out.lx.cell 0
    have q3 := HX.out.lx.cell 1
    have hk1 := HM.out.la.lt
    have hk2 := HX.out.lx.lt
    go_region_held3 (fun w' => w'.cell? ⟨w.heap.size, 0, none⟩ = some (.string nA) ∧ w'.cell? ⟨w.heap.size, 1, none⟩ = some (.slice A la.length cA) ∧ w'.cell? ⟨w6.heap.size, 0, none⟩ = some (.string nA) ∧ w'.cell? ⟨w6.heap.size, 1, none⟩ = some (.slice A6 la.length c6)) (exact ⟨cell_oldB (B := w9.heap.size) q0 (by repeat (first | with_reducible exact Below.refl _ _ | with_reducible assumption | refine Below.alloc ?_ (by first | omega | (simp; done) | (simp; omega)) _ | refine Below.setCell ?_ (by first | omega | (simp; done) | (simp; omega)) _ | refine Below.drew ?_ | refine below_drewN ?_ _ | exact Below.refl _ _ | assumption)) (by first | omega | (simp; done) | (simp; omega)), cell_oldB (B := w9.heap.size) q1 (by repeat (first | with_reducible exact Below.refl _ _ | with_reducible assumption | refine Below.alloc ?_ (by first | omega | (simp; done) | (simp; omega)) _ | refine Below.setCell ?_ (by first | omega | (simp; done) | (simp; omega)) _ | refine Below.drew ?_ | refine below_drewN ?_ _ | exact Below.refl _ _ | assumption)) (by first | omega | (simp; done) | (simp; omega)), cell_oldB (B := w9.heap.size) q2 (by repeat (first | with_reducible exact Below.refl _ _ | with_reducible assumption | refine Below.alloc ?_ (by first | omega | (simp; done) | (simp; omega)) _ | refine Below.setCell ?_ (by first | omega | (simp; done) | (simp; omega)) _ | refine Below.drew ?_ | refine below_drewN ?_ _ | exact Below.refl _ _ | assumption)) (by first | omega | (simp; done) | (simp; omega)), cell_oldB (B := w9.heap.size) q3 (by repeat (first | with_reducible exact Below.refl _ _ | with_reducible assumption | refine Below.alloc ?_ (by first | omega | (simp; done) | (simp; omega)) _ | refine Below.setCell ?_ (by first | omega | (simp; done) | (simp; omega)) _ | refine Below.drew ?_ | refine below_drewN ?_ _ | exact Below.refl _ _ | assumption)) (by first | omega | (simp; done) | (simp; omega))⟩) (first | (go_at_call 17; refine (CTA.out _ (then_ HB.out (by repeat (first | with_reducible exact Below.refl _ _ | with_reducible assumption | refine Below.alloc ?_ (by first | omega | (simp; done) | (simp; omega)) _ | refine Below.setCell ?_ (by first | omega | (simp; done) | (simp; omega)) _ | refine Below.drew ?_ | refine below_drewN ?_ _ | exact Below.refl _ _ | assumption)) HB.out.size)).mono ?_; rintro e w10 ⟨A10, c10, rfl, hc10, ho10, hb10⟩; have hT10 := then_ (w0 := w9) (B := w9.heap.size) (by repeat (first | with_reducible exact Below.refl _ _ | with_reducible assumption | refine Below.alloc ?_ (by first | omega | (simp; done) | (simp; omega)) _ | refine Below.setCell ?_ (by first | omega | (simp; done) | (simp; omega)) _ | refine Below.drew ?_ | refine below_drewN ?_ _ | exact Below.refl _ _ | assumption)) hb10 (by first | omega | (simp; done) | (simp; omega)); have hz10 := hT10.size; have HR10 := hide (own_rd ho10); obtain ⟨hcl10, hfr10⟩ := bcell hb10) | (go_at_call 19; refine (CEA.out A6 A10 c6 c10 _ ((HX.out.rd1.below (B := w9.heap.size) (by repeat (first | with_reducible exact Below.refl _ _ | with_reducible assumption | refine Below.alloc ?_ (by first | omega | (simp; done) | (simp; omega)) _ | refine Below.setCell ?_ (by first | omega | (simp; done) | (simp; omega)) _ | refine Below.drew ?_ | refine below_drewN ?_ _ | exact Below.refl _ _ | assumption)) (Nat.le_refl _)).mono (by first | omega | (simp; done) | (simp; omega))) ((HR10.out.below (B := w10.heap.size) (by repeat (first | with_reducible exact Below.refl _ _ | with_reducible assumption | refine Below.alloc ?_ (by first | omega | (simp; done) | (simp; omega)) _ | refine Below.setCell ?_ (by first | omega | (simp; done) | (simp; omega)) _ | refine Below.drew ?_ | refine below_drewN ?_ _ | exact Below.refl _ _ | assumption)) (Nat.le_refl _)).mono (by first | omega | (simp; done) | (simp; omega)))).mono ?_; rintro e w11 ⟨rfl, hb11⟩; have hT11 := then_ (w0 := w9) (B := w9.heap.size) (by repeat (first | with_reducible exact Below.refl _ _ | with_reducible assumption | refine Below.alloc ?_ (by first | omega | (simp; done) | (simp; omega)) _ | refine Below.setCell ?_ (by first | omega | (simp; done) | (simp; omega)) _ | refine Below.drew ?_ | refine below_drewN ?_ _ | exact Below.refl _ _ | assumption)) hb11 (by first | omega | (simp; done) | (simp; omega)); obtain ⟨hcl11, hfr11⟩ := bcell hb11))
    have HB := hide (then_ HB.out hT11 HB.out.size)
    have HX := hide (HX.out.up hT11)
    have HM := hide (HM.out.up hT11)
    clear q0 q1 q2 q3 hk1 hk2 hT10 hz10 HR10 hcl10 hfr10 hT11 hcl11 hfr11 hc10 ho10 hb10 hb11
    go_wp2_with fail
    have q0 := HM.out.lb.cell 0
    have q1 := HM.out.lb.cell 1
    have q2 := HX.out.ly.cell 0
    have q3 := HX.out.ly.cell 1
    have hk1 := HM.out.lb.lt
    have hk2 := HX.out.ly.lt
    go_region_held3 (fun w' => w'.cell? ⟨w.heap.size + 1, 0, none⟩ = some (.string nB) ∧ w'.cell? ⟨w.heap.size + 1, 1, none⟩ = some (.slice B lb.length cB) ∧ w'.cell? ⟨w7.heap.size, 0, none⟩ = some (.string nB) ∧ w'.cell? ⟨w7.heap.size, 1, none⟩ = some (.slice A7 lb.length c7)) (exact ⟨cell_oldB (B := w11.heap.size) q0 (by repeat (first | with_reducible exact Below.refl _ _ | with_reducible assumption | refine Below.alloc ?_ (by first | omega | (simp; done) | (simp; omega)) _ | refine Below.setCell ?_ (by first | omega | (simp; done) | (simp; omega)) _ | refine Below.drew ?_ | refine below_drewN ?_ _ | exact Below.refl _ _ | assumption)) (by first | omega | (simp; done) | (simp; omega)), cell_oldB (B := w11.heap.size) q1 (by repeat (first | with_reducible exact Below.refl _ _ | with_reducible assumption | refine Below.alloc ?_ (by first | omega | (simp; done) | (simp; omega)) _ | refine Below.setCell ?_ (by first | omega | (simp; done) | (simp; omega)) _ | refine Below.drew ?_ | refine below_drewN ?_ _ | exact Below.refl _ _ | assumption)) (by first | omega | (simp; done) | (simp; omega)), cell_oldB (B := w11.heap.size) q2 (by repeat (first | with_reducible exact Below.refl _ _ | with_reducible assumption | refine Below.alloc ?_ (by first | omega | (simp; done) | (simp; omega)) _ | refine Below.setCell ?_ (by first | omega | (simp; done) | (simp; omega)) _ | refine Below.drew ?_ | refine below_drewN ?_ _ | exact Below.refl _ _ | assumption)) (by first | omega | (simp; done) | (simp; omega)), cell_oldB (B := w11.heap.size) q3 (by repeat (first | with_reducible exact Below.refl _ _ | with_reducible assumption | refine Below.alloc ?_ (by first | omega | (simp; done) | (simp; omega)) _ | refine Below.setCell ?_ (by first | omega | (simp; done) | (simp; omega)) _ | refine Below.drew ?_ | refine below_drewN ?_ _ | exact Below.refl _ _ | assumption)) (by first | omega | (simp; done) | (simp; omega))⟩) (first | (go_at_call 17; refine (CTB.out _ (then_ HB.out (by repeat (first | with_reducible exact Below.refl _ _ | with_reducible assumption | refine Below.alloc ?_ (by first | omega | (simp; done) | (simp; omega)) _ | refine Below.setCell ?_ (by first | omega | (simp; done) | (simp; omega)) _ | refine Below.drew ?_ | refine below_drewN ?_ _ | exact Below.refl _ _ | assumption)) HB.out.size)).mono ?_; rintro e w12 ⟨A10, c10, rfl, hc10, ho10, hb10⟩; have hT10 := then_ (w0 := w11) (B := w11.heap.size) (by repeat (first | with_reducible exact Below.refl _ _ | with_reducible assumption | refine Below.alloc ?_ (by first | omega | (simp; done) | (simp; omega)) _ | refine Below.setCell ?_ (by first | omega | (simp; done) | (simp; omega)) _ | refine Below.drew ?_ | refine below_drewN ?_ _ | exact Below.refl _ _ | assumption)) hb10 (by first | omega | (simp; done) | (simp; omega)); have hz10 := hT10.size; have HR10 := hide (own_rd ho10); obtain ⟨hcl10, hfr10⟩ := bcell hb10) | (go_at_call 19; refine (CEB.out A7 A10 c7 c10 _ ((HX.out.rd2.below (B := w11.heap.size) (by repeat (first | with_reducible exact Below.refl _ _ | with_reducible assumption | refine Below.alloc ?_ (by first | omega | (simp; done) | (simp; omega)) _ | refine Below.setCell ?_ (by first | omega | (simp; done) | (simp; omega)) _ | refine Below.drew ?_ | refine below_drewN ?_ _ | exact Below.refl _ _ | assumption)) (Nat.le_refl _)).mono (by first | omega | (simp; done) | (simp; omega))) ((HR10.out.below (B := w12.heap.size) (by repeat (first | with_reducible exact Below.refl _ _ | with_reducible assumption | refine Below.alloc ?_ (by first | omega | (simp; done) | (simp; omega)) _ | refine Below.setCell ?_ (by first | omega | (simp; done) | (simp; omega)) _ | refine Below.drew ?_ | refine below_drewN ?_ _ | exact Below.refl _ _ | assumption)) (Nat.le_refl _)).mono (by first | omega | (simp; done) | (simp; omega)))).mono ?_; rintro e w13 ⟨rfl, hb11⟩; have hT11 := then_ (w0 := w11) (B := w11.heap.size) (by repeat (first | with_reducible exact Below.refl _ _ | with_reducible assumption | refine Below.alloc ?_ (by first | omega | (simp; done) | (simp; omega)) _ | refine Below.setCell ?_ (by first | omega | (simp; done) | (simp; omega)) _ | refine Below.drew ?_ | refine below_drewN ?_ _ | exact Below.refl _ _ | assumption)) hb11 (by first | omega | (simp; done) | (simp; omega)); obtain ⟨hcl11, hfr11⟩ := bcell hb11))
    have HB := hide (then_ HB.out hT11 HB.out.size)
    have HX := hide (HX.out.up hT11)
    have HM := hide (HM.out.up hT11)
    clear q0 q1 q2 q3 hk1 hk2 hT10 hz10 HR10 hcl10 hfr10 hT11 hcl11 hfr11 hc10 ho10 hb10 hb11
    have cx := HX.out.lx.cell
    have hlX := HX.out.lt
    have HK := hide (markPolicy_c nA A6 c6 la w13 wc.heap.size w6.heap.size 1 HX.out.ox (by omega) (by omega) (by omega))
    go_wp2_with fail
    refine HK.out.mono ?_
    rintro e w14 ⟨rfl, how14, hT14⟩
    have HB := hide (HB.out.trans ((hT14.below (by omega)).mono (by have := HB2'.out; omega)))
    have HX := hide (HX.out.mark hT14 how14)
    have HM := hide (HM.out.tch hT14 (Nat.le_refl _) (by omega))
    have hz14 := hT14.size
    generalize hM1 : 1 + 2 * la.length = M1
    have HK := hide (markPolicy_c nB A7 c7 lb w14 (w6.heap.size + 1) w7.heap.size M1 HX.out.oy (by omega) (by omega) (by omega))
    have cy := HX.out.ly.cell
    clear hT14 how14 cx
    go_wp2_with fail
    refine HK.out.mono ?_
    rintro e w15 ⟨rfl, how15, hT15⟩
    have HB := hide (HB.out.trans ((hT15.below (by omega)).mono (by have := HB2'.out; omega)))
    have HM := hide (HM.out.tch hT15 (by omega) (by omega))
    have hz15 := hT15.size
    generalize hM2 : M1 + 2 * lb.length = M2
    have hM20 : ¬ (M2 : Int) < 0 := by omega
    have HC := hide (CE.out A8 A1 c8 c1 _ HM.out.rd2 HM.out.rd1)
    have cz := HM.out.lz.cell
    have cg := HM.out.lg.cell
    clear hT15 how15 cy hlX HX HK
    go_wp2_with fail
    refine HC.out.mono ?_
    rintro e w16 ⟨rfl, hb16⟩
    have HB := hide (then_ HB.out hb16 HB.out.size)
    have HM := hide (HM.out.up hb16)
    have hlM := HM.out.lt
    have HK := hide (markPolicy_c N A8 c8 S w16 (w7.heap.size + 1) w8.heap.size 1 HM.out.own (by omega) (by omega) (by omega))
    have cz := HM.out.lz.cell
    clear hb16 HC cg hM20
    go_wp2_with fail
    refine HK.out.mono ?_
    rintro e w17 ⟨rfl, how17, hT17⟩
    have HB := hide (HB.out.trans ((hT17.below (by omega)).mono (by have := HB2'.out; omega)))
    have HM := hide (HM.out.mark hT17 how17)
    have HH := hide (CH.out A8 c8 w17 HM.out.rd2)
    generalize hM3 : 1 + 2 * S.length = M3 at HH
    have hM30 : ¬ (M3 : Int) < 0 := by omega
    have cz := HM.out.lz.cell
    have HN := hide hM3
    clear hT17 how17 HK hlM hM3
    go_wp2_with fail
    refine HH.out.mono ?_
    rintro e w18 ⟨rfl, hb18⟩
    have HB := hide (then_ HB.out hb18 HB.out.size)
    have HM := hide (HM.out.up hb18)
    clear hb18 HH cz
    go_upto_region 31 with fail
    have HLA := hide HM.out.la
    have HLB := hide HM.out.lb
    go_cut [15, 16] (fun p q wx => PolAt w18 N S p wx ∧ q = .bool R)
    case first =>
      have q0 := HLA.out.cell 0
      have q1 := HLA.out.cell 1
      have q2 := HLB.out.cell 0
      have q3 := HLB.out.cell 1
      have hlb2 := HLB.out.lt
      go_region_held3 (fun w' => w'.cell? ⟨w.heap.size, 0, none⟩ = some (.string nA) ∧ w'.cell? ⟨w.heap.size, 1, none⟩ = some (.slice A la.length cA) ∧ w'.cell? ⟨w.heap.size + 1, 0, none⟩ = some (.string nB) ∧ w'.cell? ⟨w.heap.size + 1, 1, none⟩ = some (.slice B lb.length cB)) (exact ⟨cell_oldB (B := w18.heap.size) q0 (by repeat (first | with_reducible exact Below.refl _ _ | with_reducible assumption | refine Below.alloc ?_ (by first | omega | (simp; done) | (simp; omega)) _ | refine Below.setCell ?_ (by first | omega | (simp; done) | (simp; omega)) _ | refine Below.drew ?_ | refine below_drewN ?_ _ | exact Below.refl _ _ | assumption)) (by first | omega | (simp; done) | (simp; omega)), cell_oldB (B := w18.heap.size) q1 (by repeat (first | with_reducible exact Below.refl _ _ | with_reducible assumption | refine Below.alloc ?_ (by first | omega | (simp; done) | (simp; omega)) _ | refine Below.setCell ?_ (by first | omega | (simp; done) | (simp; omega)) _ | refine Below.drew ?_ | refine below_drewN ?_ _ | exact Below.refl _ _ | assumption)) (by first | omega | (simp; done) | (simp; omega)), cell_oldB (B := w18.heap.size) q2 (by repeat (first | with_reducible exact Below.refl _ _ | with_reducible assumption | refine Below.alloc ?_ (by first | omega | (simp; done) | (simp; omega)) _ | refine Below.setCell ?_ (by first | omega | (simp; done) | (simp; omega)) _ | refine Below.drew ?_ | refine below_drewN ?_ _ | exact Below.refl _ _ | assumption)) (by first | omega | (simp; done) | (simp; omega)), cell_oldB (B := w18.heap.size) q3 (by repeat (first | with_reducible exact Below.refl _ _ | with_reducible assumption | refine Below.alloc ?_ (by first | omega | (simp; done) | (simp; omega)) _ | refine Below.setCell ?_ (by first | omega | (simp; done) | (simp; omega)) _ | refine Below.drew ?_ | refine below_drewN ?_ _ | exact Below.refl _ _ | assumption)) (by first | omega | (simp; done) | (simp; omega))⟩) (first | (go_at_call 17; have hTm : Below w18.heap.size w18 _ := hT3; refine (CTB.out _ (then_ HB.out (by repeat (first | with_reducible exact Below.refl _ _ | with_reducible assumption | refine Below.alloc ?_ (by first | omega | (simp; done) | (simp; omega)) _ | refine Below.setCell ?_ (by first | omega | (simp; done) | (simp; omega)) _ | refine Below.drew ?_ | refine below_drewN ?_ _ | exact Below.refl _ _ | assumption)) HB.out.size)).mono ?_; rintro e w21 ⟨A4, c4, rfl, hc4, ho4, hb4⟩; have hT4 := then_ (w0 := w18) (B := w18.heap.size) (by repeat (first | with_reducible exact Below.refl _ _ | with_reducible assumption | refine Below.alloc ?_ (by first | omega | (simp; done) | (simp; omega)) _ | refine Below.setCell ?_ (by first | omega | (simp; done) | (simp; omega)) _ | refine Below.drew ?_ | refine below_drewN ?_ _ | exact Below.refl _ _ | assumption)) hb4 (by first | omega | (simp; done) | (simp; omega)); have hz4 := hT4.size; have hs4 : w20.heap.size ≤ w21.heap.size := Nat.le_trans (by first | omega | (simp; done) | (simp; omega)) hb4.size; have HR3 := hide ((HR3.out.below (B := w20.heap.size) (by repeat (first | with_reducible exact Below.refl _ _ | with_reducible assumption | refine Below.alloc ?_ (by first | omega | (simp; done) | (simp; omega)) _ | refine Below.setCell ?_ (by first | omega | (simp; done) | (simp; omega)) _ | refine Below.drew ?_ | refine below_drewN ?_ _ | exact Below.refl _ _ | assumption)) (Nat.le_refl _)).below hb4 (by first | omega | (simp; done) | (simp; omega))); have HR4 := hide (own_rd ho4); obtain ⟨hcl4, hfr4⟩ := bcell hb4; (try have hy4 : w20.heap.size < w21.heap.size := alloc_lt hb4.size)) | (go_at_call 17; refine (CTA.out _ (then_ HB.out (by repeat (first | with_reducible exact Below.refl _ _ | with_reducible assumption | refine Below.alloc ?_ (by first | omega | (simp; done) | (simp; omega)) _ | refine Below.setCell ?_ (by first | omega | (simp; done) | (simp; omega)) _ | refine Below.drew ?_ | refine below_drewN ?_ _ | exact Below.refl _ _ | assumption)) HB.out.size)).mono ?_; rintro e w20 ⟨A3, c3, rfl, hc3, ho3, hb3⟩; have hT3 := then_ (w0 := w18) (B := w18.heap.size) (by repeat (first | with_reducible exact Below.refl _ _ | with_reducible assumption | refine Below.alloc ?_ (by first | omega | (simp; done) | (simp; omega)) _ | refine Below.setCell ?_ (by first | omega | (simp; done) | (simp; omega)) _ | refine Below.drew ?_ | refine below_drewN ?_ _ | exact Below.refl _ _ | assumption)) hb3 (by first | omega | (simp; done) | (simp; omega)); have hz3 := hT3.size; have HR3 := hide (own_rd ho3); obtain ⟨hcl3, hfr3⟩ := bcell hb3; (try have hx3 : w18.heap.size < w20.heap.size := alloc_lt (show (w18.alloc (.cells #[.string ⟨#[]⟩, .slice none 0 0] 26)).heap.size ≤ w20.heap.size from hb3.size))) | (go_at_call 18; refine (C2.out A3 A4 c3 c4 _ (hg.up (then_ HB.out (by repeat (first | with_reducible exact Below.refl _ _ | with_reducible assumption | refine Below.alloc ?_ (by first | omega | (simp; done) | (simp; omega)) _ | refine Below.setCell ?_ (by first | omega | (simp; done) | (simp; omega)) _ | refine Below.drew ?_ | refine below_drewN ?_ _ | exact Below.refl _ _ | assumption)) HB.out.size)) ((HR3.out.below (B := w21.heap.size) (by repeat (first | with_reducible exact Below.refl _ _ | with_reducible assumption | refine Below.alloc ?_ (by first | omega | (simp; done) | (simp; omega)) _ | refine Below.setCell ?_ (by first | omega | (simp; done) | (simp; omega)) _ | refine Below.drew ?_ | refine below_drewN ?_ _ | exact Below.refl _ _ | assumption)) (by first | omega | (simp; done) | (simp; omega))).mono (by first | omega | (simp; done) | (simp; omega))) ((HR4.out.below (B := w21.heap.size) (by repeat (first | with_reducible exact Below.refl _ _ | with_reducible assumption | refine Below.alloc ?_ (by first | omega | (simp; done) | (simp; omega)) _ | refine Below.setCell ?_ (by first | omega | (simp; done) | (simp; omega)) _ | refine Below.drew ?_ | refine below_drewN ?_ _ | exact Below.refl _ _ | assumption)) (Nat.le_refl _)).mono (by first | omega | (simp; done) | (simp; omega)))).mono ?_; rintro e w22 ⟨A5, c5, rfl, hc5, ho5, hb5⟩; have hT5 := then_ (w0 := w18) (B := w18.heap.size) (by repeat (first | with_reducible exact Below.refl _ _ | with_reducible assumption | refine Below.alloc ?_ (by first | omega | (simp; done) | (simp; omega)) _ | refine Below.setCell ?_ (by first | omega | (simp; done) | (simp; omega)) _ | refine Below.drew ?_ | refine below_drewN ?_ _ | exact Below.refl _ _ | assumption)) hb5 (by first | omega | (simp; done) | (simp; omega)); have hz5 := hT5.size; (try have hx4 : w18.heap.size < w21.heap.size := Nat.lt_of_lt_of_le hx3 hs4); obtain ⟨hcl5, hfr5⟩ := bcell hb5))
      all_goals
        go_wp2_with fail
        go_meet
      case rel => exact ⟨PolAt.mk1 hT5 ho5, rfl⟩
      case rel => exact ⟨PolAt.mk2 hT5 hz4 (by show w21.heap.size < (w21.alloc (.cells #[.string ⟨#[]⟩, .slice none 0 0] 26)).heap.size; simp) ((Blk.new w21 26 #[.string ⟨#[]⟩, .slice none 0 0]).below hb5 (by simp)) rfl ho5, rfl⟩
      case rel => exact ⟨PolAt.mk2 hT5 hz3 hy4 (((Blk.new w20 26 #[.string ⟨#[]⟩, .slice none 0 0]).below hb4 (by simp)).below hb5 hy4) rfl ho5, rfl⟩
      case rel => exact ⟨PolAt.mk2 hT5 (Nat.le_refl _) hx4 ((((Blk.new w18 26 #[.string ⟨#[]⟩, .slice none 0 0]).drew.below hb3 (by show w18.heap.size < (w18.alloc (.cells #[.string ⟨#[]⟩, .slice none 0 0] 26)).heap.size; simp)).below hb4 hx3).below hb5 hx4) rfl ho5, rfl⟩
    case rest =>
      obtain ⟨⟨g2, A2, c2, rfl, hg22, hbg2, hrd2, hbw2⟩, rfl⟩ := hcut
      have HB := hide (then_ HB.out hbw2 HB.out.size)
      have HM := hide (HM.out.up hbw2)
      have HC := hide (CE.out A2 A1 c2 c1 _ hrd2 HM.out.rd1)
      have ch := hbg2.cell
      have cg := HM.out.lg.cell
      clear hbg2 hrd2 hbw2 HLA HLB
      go_wp2_with fail
      refine HC.out.mono ?_
      rintro e w24 ⟨rfl, hb24⟩
      have HB := hide (then_ HB.out hb24 HB.out.size)
      have HM := hide (HM.out.up hb24)
      have hHH := CH.out A8 c8 w24 HM.out.rd2
      rw [HN.out] at hHH
      have HH := hide hHH
      have cz := HM.out.lz.cell
      clear hb24 HC hHH ch cg
      go_wp2_with fail
      refine HH.out.mono ?_
      rintro e w25 ⟨rfl, hb25⟩
      have HB := hide (then_ HB.out hb25 HB.out.size)
      clear hb25
      go_wp2_with fail
      go_ret
      exact ⟨rfl, HB.out⟩
end Go.Proofs.YtmjmjloiblbhcaaDoor
