/- The law of RuleFor: it returns true; the contract says for which arguments. -/
import Derived.Test.YtlhhdpjnoainiabDoorC8
import Derived.Deep.RegionWith
namespace Go.Proofs.YtlhhdpjnoainiabDoor
open Go.RowKit
set_option maxRecDepth 100000
set_option maxHeartbeats 400000
theorem fnExactRuleFor_walk (nm : ByteArray) (A : Option Addr) (c : Nat) (l : List Rl) (p : ByteArray) (w : World) (hg : GM w) (hw : nm.size ≤ 9223372036854775807 ∧ RdR w A c l) :
    Calls Tryd.prog 5 #[.agg #[.string nm, .slice A l.length c], .string p] w (RetV (.bool true) w) := by
  obtain ⟨hnm, hlc, hcm, hr, hes⟩ := hw
  by_cases hp : 1048576 < p.size
  · go_enter Tryd.func5, Tryd.ntmps5
    go_wp2_with fail
    go_ret
    exact ⟨rfl, (by repeat (first | with_reducible exact Below.refl _ _ | with_reducible assumption | refine Below.alloc ?_ (by first | omega | (simp; done) | (simp; omega)) _ | refine Below.setCell ?_ (by first | omega | (simp; done) | (simp; omega)) _ | refine Below.drew ?_ | refine below_drewN ?_ _ | exact Below.refl _ _ | assumption))⟩
  have CZ := hide fun (W : World) (hb : Below w.heap.size w W) => szPolicy_c nm A c l 1048576 W (hr.up hb) (fun x hx => (hes x hx).1) hnm (by omega)
  by_cases hle : szP nm l ≤ 1048576
  · have CZ2 := hide fun (W : World) (hb : Below w.heap.size w W) => by have := CZ.out W hb; rw [if_pos hle] at this; exact this
    generalize hX : 1048576 - szP nm l = X at CZ2
    have hsz : nm.size + (l.length + szR l) ≤ 1048576 := hle
    have hz : ∀ x ∈ l, x.1.size < 4294967281 := fun x hx => by have := szR_each hx; omega
    have CT := hide fun (W : World) (hb : Below w.heap.size w W) => toPolicy_c nm A c l W (hr.up hb) (by omega)
    have CS := hide fun (A : Option Addr) (c : Nat) (W : World) (h : Rd W W.heap.size 2 A l.length (rC l)) => RuleFor_s nm A c l p W h hz (by omega) (by omega)
    have CI := hide fun (A : Option Addr) (c : Nat) (W : World) (hg : GM W) (h : Rd W W.heap.size 2 A l.length (rC l)) => RuleFor_i nm A c l p W hg h hz (by omega)
    have CE := hide fun (A A2 : Option Addr) (c c2 : Nat) (W : World) (h : Rd W W.heap.size 2 A l.length (rC l)) (h2 : Rd W W.heap.size 2 A2 l.length (rC l)) => eqPolicy_c nm A A2 c c2 l W h h2
    clear CZ hX hle hsz hz hes
    generalize rfA nm l p = st at CS CI
    obtain ⟨⟨g0, x0⟩, R⟩ := st
    have CR := hide fun (W : World) => eqRule_c g0 x0 W
    have hRR : (R != R) = false := by simp
    go_enter Tryd.func5, Tryd.ntmps5
    go_wp2_with fail
    have La := Blk.new w 33 #[.string nm, .slice A l.length c]
    refine (CZ2.out _ (by repeat (first | with_reducible exact Below.refl _ _ | with_reducible assumption | refine Below.alloc ?_ (by first | omega | (simp; done) | (simp; omega)) _ | refine Below.setCell ?_ (by first | omega | (simp; done) | (simp; omega)) _ | refine Below.drew ?_ | refine below_drewN ?_ _ | exact Below.refl _ _ | assumption))).mono ?_
    rintro e w1 ⟨rfl, hb1⟩
    have hB : Below w.heap.size w w1 := then_ (by repeat (first | with_reducible exact Below.refl _ _ | with_reducible assumption | refine Below.alloc ?_ (by first | omega | (simp; done) | (simp; omega)) _ | refine Below.setCell ?_ (by first | omega | (simp; done) | (simp; omega)) _ | refine Below.drew ?_ | refine below_drewN ?_ _ | exact Below.refl _ _ | assumption)) hb1 (by first | omega | (simp; done) | (simp; omega))
    obtain ⟨La, ca, _, _⟩ := La.step hb1
    clear hb1
    go_wp2_with fail
    refine (CT.out _ hB).mono ?_
    rintro e w2 ⟨A2, c2, rfl, hc2, ho2, hb2⟩
    replace hB : Below w.heap.size w w2 := then_ hB hb2 hB.size
    obtain ⟨La, ca, _, _⟩ := La.step hb2
    clear hb2
    go_wp2_with fail
    refine (CS.out A2 c2 _ (own_rd ho2)).mono ?_
    rintro e w3 ⟨rfl, hb3⟩
    replace hB : Below w.heap.size w w3 := then_ hB hb3 hB.size
    obtain ⟨La, _, _, _⟩ := La.step hb3
    have Lw := Blk.new w3 43 #[.string g0, .int .i64 x0]
    have hB3 : Below w.heap.size w (w3.alloc (.cells #[.string g0, .int .i64 x0] 43)) := hB.alloc hB.size _
    replace La := La.alloc (.cells #[.string g0, .int .i64 x0] 43)
    have ca := La.cell
    clear hb3 ho2
    go_wp2_with fail
    refine (CT.out _ hB3).mono ?_
    rintro e w4 ⟨A4, c4, rfl, hc4, ho4, hb4⟩
    replace hB : Below w.heap.size w w4 := then_ hB3 hb4 hB3.size
    obtain ⟨La, ca, _, hlt⟩ := La.step hb4
    obtain ⟨Lw, cw, _, hlw⟩ := Lw.step hb4
    have r4 := own_rd ho4
    have Lx := Blk.new w4 38 #[.string nm, .slice A4 l.length c4]
    have hz := hB.size
    clear hb4 ho4 hB3
    go_wp2_with fail
    refine (CI.out A4 c4 _ (hg.up (by repeat (first | with_reducible exact Below.refl _ _ | with_reducible assumption | refine Below.alloc ?_ (by first | omega | (simp; done) | (simp; omega)) _ | refine Below.setCell ?_ (by first | omega | (simp; done) | (simp; omega)) _ | refine Below.drew ?_ | refine below_drewN ?_ _ | exact Below.refl _ _ | assumption))) ((r4.below (by repeat (first | with_reducible exact Below.refl _ _ | with_reducible assumption | refine Below.alloc ?_ (by first | omega | (simp; done) | (simp; omega)) _ | refine Below.setCell ?_ (by first | omega | (simp; done) | (simp; omega)) _ | refine Below.drew ?_ | refine below_drewN ?_ _ | exact Below.refl _ _ | assumption)) (Nat.le_refl _)).mono (by first | omega | (simp; done) | (simp; omega)))).mono ?_
    rintro e w5 ⟨rfl, hb5⟩
    have hB4 : Below w4.heap.size w4 w5 := then_ (by repeat (first | with_reducible exact Below.refl _ _ | with_reducible assumption | refine Below.alloc ?_ (by first | omega | (simp; done) | (simp; omega)) _ | refine Below.setCell ?_ (by first | omega | (simp; done) | (simp; omega)) _ | refine Below.drew ?_ | refine below_drewN ?_ _ | exact Below.refl _ _ | assumption)) hb5 (by first | omega | (simp; done) | (simp; omega))
    replace hB : Below w.heap.size w w5 := then_ hB hB4 hB.size
    obtain ⟨La, _, _, hl5⟩ := (La.alloc _).step hb5
    obtain ⟨Lw, _, _, hw5⟩ := (Lw.alloc _).step hb5
    obtain ⟨Lx, _, _, hx5⟩ := Lx.step hb5
    have Lg := Blk.new w5 43 #[.string g0, .int .i64 x0]
    replace La := La.alloc (.cells #[.string g0, .int .i64 x0] 43)
    replace Lw := Lw.alloc (.cells #[.string g0, .int .i64 x0] 43)
    replace Lx := Lx.alloc (.cells #[.string g0, .int .i64 x0] 43)
    have cw := Lw.cell
    have hz5 := hB.size
    have hz45 := hB4.size
    clear hb5 ca
    go_wp2_with fail
    refine (CR.out _).mono ?_
    rintro e w6 ⟨rfl, hb6⟩
    replace hB4 : Below w4.heap.size w4 w6 := then_ (hB4.alloc (by omega) (.cells #[.string g0, .int .i64 x0] 43)) hb6 (by simp; omega)
    replace hB : Below w.heap.size w w6 := then_ (hB.alloc (by omega) (.cells #[.string g0, .int .i64 x0] 43)) hb6 (by simp; omega)
    obtain ⟨La, ca, _, _⟩ := La.step hb6
    obtain ⟨Lx, cx, _, _⟩ := Lx.step hb6
    clear hb6 Lw Lg cw
    go_wp2_with fail
    replace hB := hB.drew
    replace hB4 := hB4.drew
    replace La := La.drew
    replace Lx := Lx.drew
    go_region_with (first | (go_at_call 26; refine (CT.out _ hB).mono ?_; rintro e w7 ⟨A6, c6, rfl, hc6, ho6, hb7⟩; replace hB : Below w.heap.size w w7 := then_ hB hb7 hB.size; replace hB4 : Below w4.heap.size w4 w7 := then_ hB4 hb7 hB4.size; obtain ⟨La, ca, _, _⟩ := La.step hb7; obtain ⟨Lx, cx, _, _⟩ := Lx.step hb7) | (go_at_call 28; refine (CE.out A4 A6 c4 c6 _ ((r4.below hB4 (Nat.le_refl _)).mono hB4.size) (own_rd ho6)).mono ?_; rintro e w8 ⟨rfl, hb8⟩; replace hB : Below w.heap.size w w8 := then_ hB hb8 hB.size))
    all_goals
      go_wp2_with fail
      go_ret
      exact ⟨rfl, hB⟩
  · have CZ2 := hide fun (W : World) (hb : Below w.heap.size w W) => by have := CZ.out W hb; rw [if_neg hle] at this; exact this
    clear CZ hle
    go_enter Tryd.func5, Tryd.ntmps5
    go_wp2_with fail
    refine (CZ2.out _ (by repeat (first | with_reducible exact Below.refl _ _ | with_reducible assumption | refine Below.alloc ?_ (by first | omega | (simp; done) | (simp; omega)) _ | refine Below.setCell ?_ (by first | omega | (simp; done) | (simp; omega)) _ | refine Below.drew ?_ | refine below_drewN ?_ _ | exact Below.refl _ _ | assumption))).mono ?_
    rintro e w1 ⟨rfl, hb1⟩
    have hb01 : Below w.heap.size w w1 := then_ (by repeat (first | with_reducible exact Below.refl _ _ | with_reducible assumption | refine Below.alloc ?_ (by first | omega | (simp; done) | (simp; omega)) _ | refine Below.setCell ?_ (by first | omega | (simp; done) | (simp; omega)) _ | refine Below.drew ?_ | refine below_drewN ?_ _ | exact Below.refl _ _ | assumption)) hb1 (by first | omega | (simp; done) | (simp; omega))
    go_wp2_with fail
    go_ret
    exact ⟨rfl, hb01⟩
end Go.Proofs.YtlhhdpjnoainiabDoor
