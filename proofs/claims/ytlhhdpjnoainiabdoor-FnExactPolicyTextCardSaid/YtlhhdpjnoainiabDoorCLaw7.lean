/- The law of PolicyText: it returns true; the contract says for which arguments. -/
import Derived.Test.YtlhhdpjnoainiabDoorC12
import Derived.Deep.RegionWith
namespace Go.Proofs.YtlhhdpjnoainiabDoor
open Go.RowKit
set_option maxRecDepth 100000
set_option maxHeartbeats 400000
theorem fnExactPolicyText_walk (nm : ByteArray) (A : Option Addr) (c : Nat) (l : List Rl) (w : World) (hg : GM w) (hw : nm.size ≤ 9223372036854775807 ∧ RdR w A c l) :
    Calls Tryd.prog 10 #[.agg #[.string nm, .slice A l.length c]] w (RetV (.bool true) w) := by
  obtain ⟨hnm, hlc, hcm, hr, hes⟩ := hw
  have CZ := hide fun (W : World) (hb : Below w.heap.size w W) => szPolicy_c nm A c l 1048576 W (hr.up hb) (fun x hx => (hes x hx).1) hnm (by omega)
  by_cases hle : szP nm l ≤ 1048576
  · have CZ2 := hide fun (W : World) (hb : Below w.heap.size w W) => by have := CZ.out W hb; rw [if_pos hle] at this; exact this
    generalize hX : 1048576 - szP nm l = X at CZ2
    have hsz : nm.size + (l.length + szR l) ≤ 1048576 := hle
    have hz : ∀ x ∈ l, x.1.size < 4294967281 := fun x hx => by have := szR_each hx; omega
    have CT := hide fun (W : World) (hb : Below w.heap.size w W) => toPolicy_c nm A c l W (hr.up hb) (by omega)
    have CS := hide fun (A : Option Addr) (c : Nat) (W : World) (h : Rd W W.heap.size 2 A l.length (rC l)) => PolicyText_s nm A c l W h hz (by omega)
    have CI := hide fun (A : Option Addr) (c : Nat) (W : World) (hg : GM W) (h : Rd W W.heap.size 2 A l.length (rC l)) => PolicyText_i nm A c l W hg h hz
    have CE := hide fun (A A2 : Option Addr) (c c2 : Nat) (W : World) (h : Rd W W.heap.size 2 A l.length (rC l)) (h2 : Rd W W.heap.size 2 A2 l.length (rC l)) => eqPolicy_c nm A A2 c c2 l W h h2
    clear CZ hX hle hsz hz hes
    generalize polT nm l = S at CS CI
    generalize polB nm l = R at CS CI
    have hRR : (R != R) = false := by simp
    have hSS : (S.toList != S.toList) = false := by simp
    have hSS2 : (S.toList == S.toList) = true := by simp
    go_enter Tryd.func10, Tryd.ntmps10
    go_wp2_with fail
    have La := Blk.new w 33 #[.string nm, .slice A l.length c]
    refine (CZ2.out _ (by repeat (first | with_reducible exact Below.refl _ _ | with_reducible assumption | refine Below.alloc ?_ (by first | omega | (simp; done) | (simp; omega)) _ | refine Below.setCell ?_ (by first | omega | (simp; done) | (simp; omega)) _ | refine Below.drew ?_ | refine below_drewN ?_ _ | exact Below.refl _ _ | assumption))).mono ?_
    rintro e w1 ⟨rfl, hb1⟩
    have hB : Below w.heap.size w w1 := then_ (by repeat (first | with_reducible exact Below.refl _ _ | with_reducible assumption | refine Below.alloc ?_ (by first | omega | (simp; done) | (simp; omega)) _ | refine Below.setCell ?_ (by first | omega | (simp; done) | (simp; omega)) _ | refine Below.drew ?_ | refine below_drewN ?_ _ | exact Below.refl _ _ | assumption)) hb1 (by first | omega | (simp; done) | (simp; omega))
    obtain ⟨La, ca, _, _⟩ := La.step hb1
    clear hb1
    go_wp2_with fail
    refine (CT.out _ hB).mono ?_
    rintro e w2 ⟨A2, c2, rfl, hc2, ho2, hb2⟩
    replace hB : Below w.heap.size w w2 := then_ hB hb2 hB.size
    obtain ⟨La, ca, _, _⟩ := La.step hb2
    clear hb2
    go_wp2_with fail
    refine (CS.out A2 c2 _ (own_rd ho2)).mono ?_
    rintro e w3 ⟨rfl, hb3⟩
    replace hB : Below w.heap.size w w3 := then_ hB hb3 hB.size
    obtain ⟨La, ca, _, _⟩ := La.step hb3
    clear hb3 ho2
    go_wp2_with fail
    refine (CT.out _ hB).mono ?_
    rintro e w4 ⟨A4, c4, rfl, hc4, ho4, hb4⟩
    replace hB : Below w.heap.size w w4 := then_ hB hb4 hB.size
    obtain ⟨La, ca, _, hlt⟩ := La.step hb4
    have r4 := own_rd ho4
    have Lx := Blk.new w4 38 #[.string nm, .slice A4 l.length c4]
    have hz := hB.size
    clear hb4 ho4
    go_wp2_with fail
    refine (CI.out A4 c4 _ (hg.up (by repeat (first | with_reducible exact Below.refl _ _ | with_reducible assumption | refine Below.alloc ?_ (by first | omega | (simp; done) | (simp; omega)) _ | refine Below.setCell ?_ (by first | omega | (simp; done) | (simp; omega)) _ | refine Below.drew ?_ | refine below_drewN ?_ _ | exact Below.refl _ _ | assumption))) ((r4.below (by repeat (first | with_reducible exact Below.refl _ _ | with_reducible assumption | refine Below.alloc ?_ (by first | omega | (simp; done) | (simp; omega)) _ | refine Below.setCell ?_ (by first | omega | (simp; done) | (simp; omega)) _ | refine Below.drew ?_ | refine below_drewN ?_ _ | exact Below.refl _ _ | assumption)) (Nat.le_refl _)).mono (by first | omega | (simp; done) | (simp; omega)))).mono ?_
    rintro e w5 ⟨rfl, hb5⟩
    have hB4 : Below w4.heap.size w4 w5 := then_ (by repeat (first | with_reducible exact Below.refl _ _ | with_reducible assumption | refine Below.alloc ?_ (by first | omega | (simp; done) | (simp; omega)) _ | refine Below.setCell ?_ (by first | omega | (simp; done) | (simp; omega)) _ | refine Below.drew ?_ | refine below_drewN ?_ _ | exact Below.refl _ _ | assumption)) hb5 (by first | omega | (simp; done) | (simp; omega))
    replace hB : Below w.heap.size w w5 := then_ hB hB4 hB.size
    obtain ⟨La, ca, _, _⟩ := (La.alloc _).step hb5
    obtain ⟨Lx, cx, _, _⟩ := Lx.step hb5
    clear hb5
    go_wp2_with fail
    replace hB := hB.drew
    replace hB4 := hB4.drew
    replace La := La.drew
    replace Lx := Lx.drew
    go_region_with (first | (go_at_call 26; refine (CT.out _ hB).mono ?_; rintro e w6 ⟨A6, c6, rfl, hc6, ho6, hb6⟩; replace hB : Below w.heap.size w w6 := then_ hB hb6 hB.size; replace hB4 : Below w4.heap.size w4 w6 := then_ hB4 hb6 hB4.size; obtain ⟨La, ca, _, _⟩ := La.step hb6; obtain ⟨Lx, cx, _, _⟩ := Lx.step hb6) | (go_at_call 28; refine (CE.out A4 A6 c4 c6 _ ((r4.below hB4 (Nat.le_refl _)).mono hB4.size) (own_rd ho6)).mono ?_; rintro e w7 ⟨rfl, hb7⟩; replace hB : Below w.heap.size w w7 := then_ hB hb7 hB.size))
    all_goals
      go_wp2_with fail
      go_ret
      exact ⟨rfl, hB⟩
  · have CZ2 := hide fun (W : World) (hb : Below w.heap.size w W) => by have := CZ.out W hb; rw [if_neg hle] at this; exact this
    clear CZ hle
    go_enter Tryd.func10, Tryd.ntmps10
    go_wp2_with fail
    refine (CZ2.out _ (by repeat (first | with_reducible exact Below.refl _ _ | with_reducible assumption | refine Below.alloc ?_ (by first | omega | (simp; done) | (simp; omega)) _ | refine Below.setCell ?_ (by first | omega | (simp; done) | (simp; omega)) _ | refine Below.drew ?_ | refine below_drewN ?_ _ | exact Below.refl _ _ | assumption))).mono ?_
    rintro e w1 ⟨rfl, hb1⟩
    have hb01 : Below w.heap.size w w1 := then_ (by repeat (first | with_reducible exact Below.refl _ _ | with_reducible assumption | refine Below.alloc ?_ (by first | omega | (simp; done) | (simp; omega)) _ | refine Below.setCell ?_ (by first | omega | (simp; done) | (simp; omega)) _ | refine Below.drew ?_ | refine below_drewN ?_ _ | exact Below.refl _ _ | assumption)) hb1 (by first | omega | (simp; done) | (simp; omega))
    go_wp2_with fail
    go_ret
    exact ⟨rfl, hb01⟩
end Go.Proofs.YtlhhdpjnoainiabDoor
