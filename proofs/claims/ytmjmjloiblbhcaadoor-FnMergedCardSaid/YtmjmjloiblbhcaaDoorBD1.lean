/- Draws: a cursor over bytes, and what the functions that draw from it leave; each contract says for which arguments. -/
import Derived.Test.YtmjmjloiblbhcaaDoorProg
import Derived.Test.YtmjmjloiblbhcaaDoorMemC
import Derived.Deep.QuietTactic
import Derived.BigQuiet
namespace Go.Proofs.YtmjmjloiblbhcaaDoor
open Go.RowKit
set_option maxRecDepth 100000
set_option maxHeartbeats 400000
theorem Blk.set' {w : World} {b t : Nat} {cs : Array Value} (h : Blk w b t cs) (i : Nat) (u : Value) : Blk (w.setCell ⟨b, i, none⟩ u) b t (cs.setIfInBounds i u) := heap_setCell_same w b i cs t u h
theorem Tch.of_chg {lo hi : Nat} {w w' : World} (h : Chg lo hi w w') : Tch lo hi w w' := ⟨h.os, h.tape, h.output, by rw [h.size]; exact Nat.le_refl _, fun k _ hk => h.block k hk⟩
theorem Tch.below2 {lo hi B : Nat} {w w' : World} (h : Tch lo hi w w') (h1 : B ≤ lo) (h2 : B ≤ w.heap.size) : Below B w w' := ⟨h.os, h.tape, h.output, h.size, fun k hk => h.block k (by omega) (by omega)⟩
theorem Rd.keepb {w w' : World} {hi size n b off : Nat} {xs : List Value} (h : Rd w hi size (some ⟨b, off, none⟩) n xs) (hk : w'.heap[b]? = w.heap[b]?) : Rd w' hi size (some ⟨b, off, none⟩) n xs :=
  ⟨h.1, h.2.1, fun hn => by
    obtain ⟨b', off', e, hb, hc⟩ := h.2.2 hn
    injection e with e
    injection e with e1 e2
    subst e1; subst e2
    exact ⟨b, off, rfl, hb, fun j u hu => (World.cell?_of_block hk).trans (hc j u hu)⟩⟩
theorem and_255_bd (x : Int) : 0 ≤ bits .and .i64 x 255 ∧ bits .and .i64 x 255 ≤ 255 := by
  show 0 ≤ IntKind.i64.wrap ((BitVec.ofInt 64 x &&& BitVec.ofInt 64 255).toNat : Int) ∧ IntKind.i64.wrap ((BitVec.ofInt 64 x &&& BitVec.ofInt 64 255).toNat : Int) ≤ 255
  have h : (BitVec.ofInt 64 x &&& BitVec.ofInt 64 255).toNat ≤ 255 := by
    rw [BitVec.toNat_and]
    exact Nat.and_le_right
  rw [IntKind.wrap_i64]
  omega
/-- the cursor at block B; what it reads lies below base -/
def Cur (w : World) (base B : Nat) : Prop :=
  ∃ (A : Option Addr) (n c : Nat) (l : List UInt8) (i : Nat) (h : Int), Blk w B 96 #[.slice A n c, .int .i64 (i : Int), .int .i64 h] ∧ i ≤ n ∧ base ≤ B ∧ Rd w base 1 A n (bC l) ∧ n ≤ 1048576
theorem Cur.below {w w' : World} {base B : Nat} (h : Cur w base B) (hb : Below w.heap.size w w') : Cur w' base B := by
  obtain ⟨A, n, c, l, i, hh, hB, hi, hbB, hr, hn⟩ := h
  have := hB.lt
  exact ⟨A, n, c, l, i, hh, hB.below hb hB.lt, hi, hbB, hr.below hb (by omega), hn⟩
theorem Cur.below' {w w' : World} {base B B' : Nat} (h : Cur w base B) (hb : Below B' w w') (hlt : B < B') : Cur w' base B := by
  obtain ⟨A, n, c, l, i, hh, hB, hi, hbB, hr, hn⟩ := h
  exact ⟨A, n, c, l, i, hh, hB.below hb hlt, hi, hbB, hr.below hb (by omega), hn⟩
/-- a number, the cursor gone on -/
def CurI (P : Int → Prop) (base B : Nat) (w : World) (en : Ending) (w' : World) : Prop := ∃ r : Int, P r ∧ en = .returned (.int .i64 r) ∧ Cur w' base B ∧ Tch B (B + 1) w w'
theorem l01Byte_c (base B : Nat) (w : World) (hc : Cur w base B) : Calls Tryd.prog 78 #[.pointer (some ⟨B, 0, none⟩)] w (CurI (fun r => 0 ≤ r ∧ r ≤ 255) base B w) := by
  obtain ⟨A, n, c, l, i, h, hB, hi, hbB, hr, hn⟩ := hc
  have q := fun j => hB.cell j
  have qf := fun j => hB.frozen j
  have HBK := hide hB
  clear hB
  by_cases hin : i < n
  · obtain ⟨b, off, rfl, hblt, hl, hcb⟩ := hr.byte hin
    have i0 : (0 : Int) ≤ (i : Int) := by omega
    have i1 : (i : Int) < (n : Int) := by omega
    go_enter Tryd.func78, Tryd.ntmps78
    go_wp2_with fail
    generalize wrap64 (wrap64 (h * 6364136223846793005) + 1442695040888963407) = h2
    have hB2 : Blk (w.setCell ⟨B, 2, none⟩ (.int .i64 h2)) B 96 #[.slice (some ⟨b, off, none⟩) n c, .int .i64 (i : Int), .int .i64 h2] := HBK.out.set' 2 _
    have hM2 : Tch B (B + 1) w (w.setCell ⟨B, 2, none⟩ (.int .i64 h2)) := Tch.of_chg ((Chg.refl _ _ _).setCell (p := ⟨B, 2, none⟩) (Nat.le_refl _) (Nat.lt_succ_self _) _)
    generalize w.setCell ⟨B, 2, none⟩ (.int .i64 h2) = w2 at hB2 hM2 ⊢
    have q2 := fun j => hB2.cell j
    have qf2 := fun j => hB2.frozen j
    clear q qf
    go_quiet (fail)
    go_wp2_with fail
    go_quiet (fail)
    go_wp2_with fail
    have hlt2 : b < w.heap.size := by have := HBK.out.lt; omega
    have hcb2 : w2.cell? ⟨b, off + i, none⟩ = some (.int .u8 (l[i].toNat : Int)) := (World.cell?_of_block (hM2.block b hlt2 (by omega))).trans hcb
    go_quiet (fail)
    go_wp2_with fail
    go_ret
    refine ⟨_, and_255_bd _, rfl, ⟨some ⟨b, off, none⟩, n, c, l, i + 1, h2, ?_, by omega, hbB, ?_, hn⟩, ?_⟩
    · rw [show ((i + 1 : Nat) : Int) = (i : Int) + 1 from by omega]
      exact (hB2.drewN _).set' 1 _
    · refine (hr.keep (w' := w2) fun g hg => hM2.block g (by have := HBK.out.lt; omega) (by omega)).keep fun g hg => ?_
      exact Below.heap_setCell _ _ _ _ (by show g ≠ B; omega)
    · refine hM2.trans (Tch.of_chg ?_)
      exact ((Chg.refl B (B + 1) w2).drewN _).setCell (p := ⟨B, 1, none⟩) (Nat.le_refl _) (Nat.lt_succ_self _) _
  · have i0 : (0 : Int) ≤ (i : Int) := by omega
    have hin2 : decide ((i : Int) < (n : Int)) = false := decide_eq_false (by omega)
    go_enter Tryd.func78, Tryd.ntmps78
    go_wp2_with fail
    generalize wrap64 (wrap64 (h * 6364136223846793005) + 1442695040888963407) = h2
    have hB2 : Blk (w.setCell ⟨B, 2, none⟩ (.int .i64 h2)) B 96 #[.slice A n c, .int .i64 (i : Int), .int .i64 h2] := HBK.out.set' 2 _
    have hM2 : Tch B (B + 1) w (w.setCell ⟨B, 2, none⟩ (.int .i64 h2)) := Tch.of_chg ((Chg.refl _ _ _).setCell (p := ⟨B, 2, none⟩) (Nat.le_refl _) (Nat.lt_succ_self _) _)
    generalize w.setCell ⟨B, 2, none⟩ (.int .i64 h2) = w2 at hB2 hM2 ⊢
    have q2 := fun j => hB2.cell j
    have qf2 := fun j => hB2.frozen j
    clear q qf
    go_quiet (fail)
    go_wp2_with fail
    go_quiet (fail)
    go_wp2_with fail
    go_ret
    refine ⟨_, and_255_bd _, rfl, ⟨A, n, c, l, i, h2, ?_, hi, hbB, ?_, hn⟩, ?_⟩
    · first | exact (hB2.drewN _).drewN _ | exact hB2.drewN _
    · exact hr.keep (w' := w2) fun g hg => hM2.block g (by have := HBK.out.lt; omega) (by omega)
    · refine hM2.trans (Tch.of_chg ?_)
      first | exact ((Chg.refl B (B + 1) w2).drewN _).drewN _ | exact (Chg.refl B (B + 1) w2).drewN _
theorem l01Below_c (n : Int) (base B : Nat) (w : World) (hc : Cur w base B) (hn : n ≤ 16777216) : Calls Tryd.prog 51 #[.pointer (some ⟨B, 0, none⟩), .int .i64 n] w (CurI (fun r => 0 ≤ r ∧ r ≤ 16777216 ∧ (r = 0 ∨ r < n)) base B w) := by
  have HC := hide hc
  clear hc
  by_cases h0 : n ≤ 0
  · go_enter Tryd.func51, Tryd.ntmps51
    go_wp2_with fail
    go_ret
    exact ⟨0, ⟨by omega, by omega, .inl rfl⟩, rfl, HC.out, Tch.of_below (Below.refl _ _)⟩
  · by_cases h256 : n ≤ 256
    · go_enter Tryd.func51, Tryd.ntmps51
      go_wp2_with fail
      refine (l01Byte_c base B _ HC.out).mono ?_
      rintro e w1 ⟨r, ⟨r0, r1⟩, rfl, hc1, hm1⟩
      have hp : 0 < n := by omega
      have e1 := Int.emod_nonneg r (show n ≠ 0 by omega)
      have e2 := Int.emod_lt_of_pos r hp
      go_wp2_with fail
      go_ret
      refine ⟨r % n, ⟨e1, by omega, .inr e2⟩, ?_, hc1, hm1⟩
      first | rfl | (rw [Int.emod_eq_tmod_of_nonneg r0] <;> rfl) | (simp [Int.tmod_eq_emod_of_nonneg r0])
    · go_enter Tryd.func51, Tryd.ntmps51
      go_wp2_with fail
      refine (l01Byte_c base B _ HC.out).mono ?_
      rintro e w1 ⟨r, ⟨r0, r1⟩, rfl, hc1, hm1⟩
      have HC1 := hide hc1
      have HM1 := hide hm1
      clear hc1 hm1
      go_wp2_with fail
      refine (l01Byte_c base B _ HC1.out).mono ?_
      rintro e w2 ⟨s, ⟨s0, s1⟩, rfl, hc2, hm2⟩
      have HC2 := hide hc2
      have HM2 := hide (HM1.out.trans hm2)
      clear hc2 hm2
      go_wp2_with fail
      refine (l01Byte_c base B _ HC2.out).mono ?_
      rintro e w3 ⟨t, ⟨t0, t1⟩, rfl, hc3, hm3⟩
      have HC3 := hide hc3
      have HM3 := hide (HM2.out.trans hm3)
      clear hc3 hm3
      have hp : 0 < n := by omega
      have x0 : 0 ≤ r * 65536 + s * 256 + t := by omega
      have e1 := Int.emod_nonneg (r * 65536 + s * 256 + t) (show n ≠ 0 by omega)
      have e2 := Int.emod_lt_of_pos (r * 65536 + s * 256 + t) hp
      go_wp2_with fail
      go_ret
      refine ⟨(r * 65536 + s * 256 + t) % n, ⟨e1, by omega, .inr e2⟩, ?_, HC3.out, HM3.out⟩
      first | rfl | (simp [Int.tmod_eq_emod_of_nonneg x0])
/-- a Boolean, the cursor gone on -/
def CurB (base B : Nat) (w : World) (en : Ending) (w' : World) : Prop := ∃ r : Bool, en = .returned (.bool r) ∧ Cur w' base B ∧ Tch B (B + 1) w w'
theorem l01Once_c (n : Int) (base B : Nat) (w : World) (hc : Cur w base B) (hn : n ≤ 16777216) : Calls Tryd.prog 57 #[.pointer (some ⟨B, 0, none⟩), .int .i64 n] w (CurB base B w) := by
  go_enter Tryd.func57, Tryd.ntmps57
  go_wp2_with fail
  refine (l01Below_c n base B _ hc hn).mono ?_
  rintro e w1 ⟨r, ⟨r0, _, r1⟩, rfl, hc1, hm1⟩
  go_wp2_with fail
  go_ret
  exact ⟨_, rfl, hc1, hm1⟩
/-- the cursor's own start -/
def CurN (w : World) (en : Ending) (w' : World) : Prop := en = .returned (.pointer (some ⟨w.heap.size, 0, none⟩)) ∧ Cur w' w.heap.size w.heap.size ∧ Below w.heap.size w w'
theorem l01New_c (A : Option Addr) (n c : Nat) (l : List UInt8) (w : World) (hr : Rd w w.heap.size 1 A n (bC l)) (hn : n ≤ 1048576) : Calls Tryd.prog 48 #[.slice A n c] w (CurN w) := by
  have hln := hide hr.bn
  go_enter Tryd.func48, Tryd.ntmps48
  go_wp2_with fail
  go_loop [3, 4] (fun hv iv => ∃ (k : Nat) (h : Int), k ≤ n ∧ iv = .int .i64 (k : Int) ∧ hv = .int .i64 h) (fun _ iv => n - (intOf iv).toNat)
  case atStart => exact ⟨0, _, by omega, rfl, rfl⟩
  case round =>
    obtain ⟨k, h, hk, rfl, rfl⟩ := hrel
    have fin : ∀ h : Int, Cur (w.alloc (.cells #[.slice A n c, .int .i64 0, .int .i64 h] 96)) w.heap.size w.heap.size := fun h =>
      ⟨A, n, c, l, 0, h, Blk.new _ _ _, by omega, Nat.le_refl _, hr.below ((Below.refl _ _).alloc (Nat.le_refl _) _) (Nat.le_refl _), hn⟩
    have FIN := hide fin
    clear fin
    by_cases hlt : k < n
    · obtain ⟨b, off, rfl, hblt, hl, hcb⟩ := hr.byte hlt
      by_cases h4 : k < 4000
      · go_wp2_with fail
        go_round
        case rel => exact ⟨k + 1, _, by omega, by go_num, rfl⟩
        case measure => simp [intOf]; omega
      · go_wp2_with fail
        go_ret
        exact ⟨rfl, FIN.out _, (by repeat (first | with_reducible exact Below.refl _ _ | with_reducible assumption | refine Below.alloc ?_ (by first | omega | (simp; done) | (simp; omega)) _ | refine Below.setCell ?_ (by first | omega | (simp; done) | (simp; omega)) _ | refine Below.drew ?_ | refine below_drewN ?_ _ | exact Below.refl _ _ | assumption))⟩
    · go_wp2_with fail
      go_ret
      exact ⟨rfl, FIN.out _, (by repeat (first | with_reducible exact Below.refl _ _ | with_reducible assumption | refine Below.alloc ?_ (by first | omega | (simp; done) | (simp; omega)) _ | refine Below.setCell ?_ (by first | omega | (simp; done) | (simp; omega)) _ | refine Below.drew ?_ | refine below_drewN ?_ _ | exact Below.refl _ _ | assumption))⟩
end Go.Proofs.YtmjmjloiblbhcaaDoor
