/- Draws: a cursor over bytes, and what the functions that draw from it leave. -/
import Derived.Test.YtgkjgaijjihmgaaA2
import Derived.Test.YtgkjgaijjihmgaaMem7
import Derived.Deep.QuietTactic
import Derived.BigQuiet
namespace Go.Proofs.Ytgkjgaijjihmgaa
open Go.RowKit
set_option maxRecDepth 100000
set_option maxHeartbeats 400000
theorem and_255_bd (x : Int) : 0 ≤ bits .and .i64 x 255 ∧ bits .and .i64 x 255 ≤ 255 := by
  show 0 ≤ IntKind.i64.wrap ((BitVec.ofInt 64 x &&& BitVec.ofInt 64 255).toNat : Int) ∧ IntKind.i64.wrap ((BitVec.ofInt 64 x &&& BitVec.ofInt 64 255).toNat : Int) ≤ 255
  have h : (BitVec.ofInt 64 x &&& BitVec.ofInt 64 255).toNat ≤ 255 := by
    rw [BitVec.toNat_and]
    exact Nat.and_le_right
  rw [IntKind.wrap_i64]
  omega
/-- the cursor at block B; what it reads lies below base -/
def Cur (w : World) (base B : Nat) : Prop :=
  ∃ (A : Option Addr) (n c : Nat) (l : List UInt8) (i : Nat) (h : Int), Blk w B 79 #[.slice A n c, .int .i64 (i : Int), .int .i64 h] ∧ i ≤ n ∧ base ≤ B ∧ Rd w base 1 A n (bC l) ∧ n ≤ 1048576
theorem Cur.below {w w' : World} {base B : Nat} (h : Cur w base B) (hb : Below w.heap.size w w') : Cur w' base B := by
  obtain ⟨A, n, c, l, i, hh, hB, hi, hbB, hr, hn⟩ := h
  have := hB.lt
  exact ⟨A, n, c, l, i, hh, hB.below hb hB.lt, hi, hbB, hr.below hb (by omega), hn⟩
theorem Cur.below' {w w' : World} {base B B' : Nat} (h : Cur w base B) (hb : Below B' w w') (hlt : B < B') : Cur w' base B := by
  obtain ⟨A, n, c, l, i, hh, hB, hi, hbB, hr, hn⟩ := h
  exact ⟨A, n, c, l, i, hh, hB.below hb hlt, hi, hbB, hr.below hb (by omega), hn⟩
theorem Mk.post' {lo hi : Nat} {w w1 w2 : World} (h : Mk lo hi w w1) (k : Below w.heap.size w1 w2) : Mk lo hi w w2 :=
  ⟨k.os.trans h.os, k.tape.trans h.tape, k.output.trans h.output, Nat.le_trans h.size k.size, fun i hi hn => (k.block i hi).trans (h.block i hi hn)⟩
theorem own_mk {w w' : World} {lo e size n c B : Nat} {A : Option Addr} {xs : List Value} (h : w.ownsRow lo e size (.slice A n c) n xs) (hm : Mk B (B + 1) w w') (hB : B < lo) : w'.ownsRow lo e size (.slice A n c) n xs :=
  own_keep h fun a ha => by
    subst ha
    obtain ⟨_, _, hlo⟩ := own_type h
    exact hm.block _ (own_lt h) (by omega)
/-- a number, the cursor gone on -/
def CurI (P : Int → Prop) (base B : Nat) (w : World) (en : Ending) (w' : World) : Prop := ∃ r : Int, P r ∧ en = .returned (.int .i64 r) ∧ Cur w' base B ∧ Mk B (B + 1) w w'
theorem l01Byte_c (base B : Nat) (w : World) (hc : Cur w base B) : Calls Try.prog 68 #[.pointer (some ⟨B, 0, none⟩)] w (CurI (fun r => 0 ≤ r ∧ r ≤ 255) base B w) := by
  obtain ⟨A, n, c, l, i, h, hB, hi, hbB, hr, hn⟩ := hc
  have q := fun j => hB.cell j
  have qf := fun j => hB.frozen j
  have HBK := hide hB
  clear hB
  by_cases hin : i < n
  · obtain ⟨b, off, rfl, hblt, hl, hcb⟩ := hr.byte hin
    have i0 : (0 : Int) ≤ (i : Int) := by omega
    have i1 : (i : Int) < (n : Int) := by omega
    go_enter Try.func68, Try.ntmps68
    go_wp2_with fail
    generalize wrap64 (wrap64 (h * 6364136223846793005) + 1442695040888963407) = h2
    have hB2 : Blk (w.setCell ⟨B, 2, none⟩ (.int .i64 h2)) B 79 #[.slice (some ⟨b, off, none⟩) n c, .int .i64 (i : Int), .int .i64 h2] := HBK.out.set 2 _
    have hM2 : Mk B (B + 1) w (w.setCell ⟨B, 2, none⟩ (.int .i64 h2)) := Mk.of_chg ((Chg.refl _ _ _).setCell (p := ⟨B, 2, none⟩) (Nat.le_refl _) (Nat.lt_succ_self _) _)
    generalize w.setCell ⟨B, 2, none⟩ (.int .i64 h2) = w2 at hB2 hM2 ⊢
    have q2 := fun j => hB2.cell j
    have qf2 := fun j => hB2.frozen j
    clear q qf
    go_quiet (fail)
    go_wp2_with fail
    go_quiet (fail)
    go_wp2_with fail
    have hlt2 : b < w.heap.size := by have := HBK.out.lt; omega
    have hcb2 : w2.cell? ⟨b, off + i, none⟩ = some (.int .u8 (l[i].toNat : Int)) := (World.cell?_of_block (hM2.block b hlt2 (by omega))).trans hcb
    go_quiet (fail)
    go_wp2_with fail
    go_ret
    refine ⟨_, and_255_bd _, rfl, ⟨some ⟨b, off, none⟩, n, c, l, i + 1, h2, ?_, by omega, hbB, ?_, hn⟩, ?_⟩
    · rw [show ((i + 1 : Nat) : Int) = (i : Int) + 1 from by omega]
      exact (hB2.drewN _).set 1 _
    · refine (hr.keep (w' := w2) fun g hg => hM2.block g (by have := HBK.out.lt; omega) (by omega)).keep fun g hg => ?_
      exact Below.heap_setCell _ _ _ _ (by show g ≠ B; omega)
    · refine hM2.trans (Mk.of_chg ?_)
      exact ((Chg.refl B (B + 1) w2).drewN _).setCell (p := ⟨B, 1, none⟩) (Nat.le_refl _) (Nat.lt_succ_self _) _
  · have i0 : (0 : Int) ≤ (i : Int) := by omega
    have hin2 : decide ((i : Int) < (n : Int)) = false := decide_eq_false (by omega)
    go_enter Try.func68, Try.ntmps68
    go_wp2_with fail
    generalize wrap64 (wrap64 (h * 6364136223846793005) + 1442695040888963407) = h2
    have hB2 : Blk (w.setCell ⟨B, 2, none⟩ (.int .i64 h2)) B 79 #[.slice A n c, .int .i64 (i : Int), .int .i64 h2] := HBK.out.set 2 _
    have hM2 : Mk B (B + 1) w (w.setCell ⟨B, 2, none⟩ (.int .i64 h2)) := Mk.of_chg ((Chg.refl _ _ _).setCell (p := ⟨B, 2, none⟩) (Nat.le_refl _) (Nat.lt_succ_self _) _)
    generalize w.setCell ⟨B, 2, none⟩ (.int .i64 h2) = w2 at hB2 hM2 ⊢
    have q2 := fun j => hB2.cell j
    have qf2 := fun j => hB2.frozen j
    clear q qf
    go_quiet (fail)
    go_wp2_with fail
    go_quiet (fail)
    go_wp2_with fail
    go_ret
    refine ⟨_, and_255_bd _, rfl, ⟨A, n, c, l, i, h2, ?_, hi, hbB, ?_, hn⟩, ?_⟩
    · first | exact (hB2.drewN _).drewN _ | exact hB2.drewN _
    · exact hr.keep (w' := w2) fun g hg => hM2.block g (by have := HBK.out.lt; omega) (by omega)
    · refine hM2.trans (Mk.of_chg ?_)
      first | exact ((Chg.refl B (B + 1) w2).drewN _).drewN _ | exact (Chg.refl B (B + 1) w2).drewN _
theorem l01Below_c (n : Int) (base B : Nat) (w : World) (hc : Cur w base B) (hn : n ≤ 16777216) : Calls Try.prog 33 #[.pointer (some ⟨B, 0, none⟩), .int .i64 n] w (CurI (fun r => 0 ≤ r ∧ r ≤ 16777216 ∧ (r = 0 ∨ r < n)) base B w) := by
  have HC := hide hc
  clear hc
  by_cases h0 : n ≤ 0
  · go_enter Try.func33, Try.ntmps33
    go_wp2_with fail
    go_ret
    exact ⟨0, ⟨by omega, by omega, .inl rfl⟩, rfl, HC.out, Mk.of_below (Below.refl _ _)⟩
  · by_cases h256 : n ≤ 256
    · go_enter Try.func33, Try.ntmps33
      go_wp2_with fail
      refine (l01Byte_c base B _ HC.out).mono ?_
      rintro e w1 ⟨r, ⟨r0, r1⟩, rfl, hc1, hm1⟩
      have hp : 0 < n := by omega
      have e1 := Int.emod_nonneg r (show n ≠ 0 by omega)
      have e2 := Int.emod_lt_of_pos r hp
      go_wp2_with fail
      go_ret
      refine ⟨r % n, ⟨e1, by omega, .inr e2⟩, ?_, hc1, hm1⟩
      first | rfl | (rw [Int.emod_eq_tmod_of_nonneg r0] <;> rfl) | (simp [Int.tmod_eq_emod_of_nonneg r0])
    · go_enter Try.func33, Try.ntmps33
      go_wp2_with fail
      refine (l01Byte_c base B _ HC.out).mono ?_
      rintro e w1 ⟨r, ⟨r0, r1⟩, rfl, hc1, hm1⟩
      have HC1 := hide hc1
      have HM1 := hide hm1
      clear hc1 hm1
      go_wp2_with fail
      refine (l01Byte_c base B _ HC1.out).mono ?_
      rintro e w2 ⟨s, ⟨s0, s1⟩, rfl, hc2, hm2⟩
      have HC2 := hide hc2
      have HM2 := hide (HM1.out.trans hm2)
      clear hc2 hm2
      go_wp2_with fail
      refine (l01Byte_c base B _ HC2.out).mono ?_
      rintro e w3 ⟨t, ⟨t0, t1⟩, rfl, hc3, hm3⟩
      have HC3 := hide hc3
      have HM3 := hide (HM2.out.trans hm3)
      clear hc3 hm3
      have hp : 0 < n := by omega
      have x0 : 0 ≤ r * 65536 + s * 256 + t := by omega
      have e1 := Int.emod_nonneg (r * 65536 + s * 256 + t) (show n ≠ 0 by omega)
      have e2 := Int.emod_lt_of_pos (r * 65536 + s * 256 + t) hp
      go_wp2_with fail
      go_ret
      refine ⟨(r * 65536 + s * 256 + t) % n, ⟨e1, by omega, .inr e2⟩, ?_, HC3.out, HM3.out⟩
      first | rfl | (simp [Int.tmod_eq_emod_of_nonneg x0])
/-- a Boolean, the cursor gone on -/
def CurB (base B : Nat) (w : World) (en : Ending) (w' : World) : Prop := ∃ r : Bool, en = .returned (.bool r) ∧ Cur w' base B ∧ Mk B (B + 1) w w'
theorem l01Once_c (n : Int) (base B : Nat) (w : World) (hc : Cur w base B) (hn : n ≤ 16777216) : Calls Try.prog 35 #[.pointer (some ⟨B, 0, none⟩), .int .i64 n] w (CurB base B w) := by
  go_enter Try.func35, Try.ntmps35
  go_wp2_with fail
  refine (l01Below_c n base B _ hc hn).mono ?_
  rintro e w1 ⟨r, ⟨r0, _, r1⟩, rfl, hc1, hm1⟩
  go_wp2_with fail
  go_ret
  exact ⟨_, rfl, hc1, hm1⟩
theorem l01PickInt_c (b n c : Nat) (l : List Int) (base B : Nat) (w : World) (hc : Cur w base B) (hr : Rd w w.heap.size 1 (some ⟨b, 0, none⟩) n (iC l)) (hb : b < w.heap.size) (hne : b ≠ B) (hn0 : 0 < n) (hn : n ≤ 4096) :
    Calls Try.prog 36 #[.pointer (some ⟨B, 0, none⟩), .slice (some ⟨b, 0, none⟩) n c] w (CurI (fun _ => True) base B w) := by
  go_enter Try.func36, Try.ntmps36
  go_wp2_with fail
  refine (l01Below_c n base B _ hc (by omega)).mono ?_
  rintro e w1 ⟨r, ⟨r0, _, r1⟩, rfl, hc1, hm1⟩
  obtain ⟨k, rfl⟩ := Int.eq_ofNat_of_zero_le r0
  have hk : k < n := by omega
  have hr1 := hr.keepb (w' := w1) (hm1.block b hb (by omega))
  obtain ⟨b', off', e, _, hl, hcell⟩ := hr1.int_ hk
  injection e with e
  injection e with e1 e2
  subst e1; subst e2
  simp only [Nat.zero_add] at hcell
  clear hr1 r1
  go_wp2_with fail
  go_ret
  exact ⟨_, trivial, rfl, hc1, hm1⟩
theorem wrap_u8_byte (r : Int) : ∃ u : UInt8, IntKind.u8.wrap r = (u.toNat : Int) := by
  refine ⟨UInt8.ofNat (r % 256).toNat, ?_⟩
  rw [IntKind.wrap_u8', UInt8.toNat_ofNat']
  omega
/-- bytes, the cursor gone on -/
def CurL (m : Nat) (base B : Nat) (w : World) (en : Ending) (w' : World) : Prop :=
  ∃ A c l, en = .returned (.slice A l.length c) ∧ l.length ≤ m ∧ l.length ≤ c ∧ w'.ownsRow w.heap.size 5 1 (.slice A l.length c) l.length (bC l) ∧ Cur w' base B ∧ Mk B (B + 1) w w'
theorem l01DrawBytes_c (n : Int) (base B : Nat) (w : World) (hc : Cur w base B) (hn : n ≤ 4096) : Calls Try.prog 32 #[.pointer (some ⟨B, 0, none⟩), .int .i64 n] w (CurL 4096 base B w) := by
  have hBlt : B < w.heap.size := by obtain ⟨A, m, c, l, i, h, hB, _⟩ := hc; exact hB.lt
  have hc0 : Cur (w.alloc (.cells #[] 5)) base B := hc.below ((Below.refl _ _).alloc (Nat.le_refl _) _)
  have HC0 := hide hc0
  clear hc hc0
  go_enter Try.func32, Try.ntmps32
  go_wp2_with fail
  go_loopw [5, 6] (fun v iv wr => ∃ (k : Nat) (A' : Option Addr) (c' : Nat) (l : List UInt8), k ≤ 4096 ∧ ((k : Int) ≤ n ∨ k = 0) ∧ l.length = k ∧ iv = .int .i64 (k : Int) ∧ v = .slice A' k c' ∧ k ≤ c' ∧ wr.ownsRow w.heap.size 5 1 (.slice A' k c') k (bC l) ∧ Cur wr base B ∧ Mk B (B + 1) w wr) (fun _ iv _ => (n - intOf iv).toNat)
  case atStart => exact ⟨0, _, _, [], by omega, .inr rfl, rfl, rfl, rfl, Nat.le_refl _, World.ownsRow_made w #[] 0 (Nat.le_refl _) (by omega) rfl, HC0.out, Mk.of_below (by repeat (first | with_reducible exact Below.refl _ _ | with_reducible assumption | refine Below.alloc ?_ (by first | omega | (simp; done) | (simp; omega)) _ | refine Below.setCell ?_ (by first | omega | (simp; done) | (simp; omega)) _ | refine Below.drew ?_ | refine below_drewN ?_ _ | exact Below.refl _ _ | assumption))⟩
  case round =>
    obtain ⟨k, A', c', l, hk4, hkn, hlk, rfl, rfl, hkc, hown, hcur, hm⟩ := hrel
    have HLK := hide hlk
    have HO := hide hown
    have HC := hide hcur
    have HM := hide hm
    clear hlk hown hcur hm
    by_cases hlt : (k : Int) < n
    · have hkb : k < 4096 := by omega
      go_wp2_with fail
      refine (l01Below_c 256 base B _ HC.out (by omega)).mono ?_
      rintro e w1 ⟨r1, _, rfl, hc1, hm1⟩
      have HC1 := hide hc1
      have HO1 := hide (own_mk HO.out hm1 hBlt)
      have HM1 := hide (HM.out.trans hm1)
      clear hc1 hm1
      go_wp2_with fail
      refine (l01Below_c 256 base B _ HC1.out (by omega)).mono ?_
      rintro e w2 ⟨r2, _, rfl, hc2, hm2⟩
      have HC2 := hide hc2
      have HO2 := hide (own_mk HO1.out hm2 hBlt)
      have HM2 := hide (HM1.out.trans hm2)
      have hz2 : w.heap.size ≤ w2.heap.size := HM2.out.size
      clear hc2 hm2
      go_wp2_with fail
      have L := Blk.new w2 3 #[.int .i64 0, .int .i64 1, .int .i64 255, .int .i64 128, .int .i64 r1, .int .i64 r2]
      have hbq : Below w2.heap.size w2 (w2.alloc (.cells #[.int .i64 0, .int .i64 1, .int .i64 255, .int .i64 128, .int .i64 r1, .int .i64 r2] 3)) := (by repeat (first | with_reducible exact Below.refl _ _ | with_reducible assumption | refine Below.alloc ?_ (by first | omega | (simp; done) | (simp; omega)) _ | refine Below.setCell ?_ (by first | omega | (simp; done) | (simp; omega)) _ | refine Below.drew ?_ | refine below_drewN ?_ _ | exact Below.refl _ _ | assumption))
      have hrd : Rd (w2.alloc (.cells #[.int .i64 0, .int .i64 1, .int .i64 255, .int .i64 128, .int .i64 r1, .int .i64 r2] 3)) (w2.heap.size + 1) 1 (some ⟨w2.heap.size, 0, none⟩) 6 (iC [0, 1, 255, 128, r1, r2]) :=
        (Ow.made w2 #[.int .i64 0, .int .i64 1, .int .i64 255, .int .i64 128, .int .i64 r1, .int .i64 r2] 3 6 1 rfl (by omega)).rd
      refine (l01PickInt_c w2.heap.size 6 6 [0, 1, 255, 128, r1, r2] base B _ (HC2.out.below hbq) (hrd.mono (by simp)) (by simp) (by omega) (by omega) (by omega)).mono ?_
      rintro e w3 ⟨r3, _, rfl, hc3, hm3⟩
      have HC3 := hide hc3
      have HM3 := hide ((HM2.out.trans (Mk.of_below hbq)).trans hm3)
      have HO3 := hide (own_mk (own_keep HO2.out (fun a ha => hbq.block a.block (by have h := HO2.out; subst ha; exact own_lt h))) hm3 hBlt)
      have hz3 : w.heap.size ≤ w3.heap.size := HM3.out.size
      clear hc3 hm3 hrd hbq L
      obtain ⟨u, hu⟩ := wrap_u8_byte r3
      have hu2 : Hid (IntKind.u8.wrap r3 = (u.toNat : Int)) := hu
      rw [IntKind.wrap_u8'] at hu
      go_wp2_with (at_builtin; refine wpList_push w3 rfl (.tmp 13) (.tmp 22) 22 rfl w.heap.size 5 _ 1 1 Try.underlying22 info5 rfl (by omega) A' k c' _ [.int .u8 (u.toNat : Int)] rfl HO3.out rfl rfl (by simp [Value.oneCell']) (by omega) (by omega) hz3 ?_; intro A4 c4 w4 hc4 hown4 hg4 _)
      have hb4 := grown_below HO3.out hg4 hz3
      exact ⟨⟨k + 1, A4, c4, l ++ [u], by omega, .inl (by omega), by rw [List.length_append, HLK.out]; rfl, by go_num, rfl, hc4, by rw [bC_append]; exact hown4, HC3.out.below' hb4 hBlt, HM3.out.post' hb4⟩, by simp [intOf]; omega⟩
    · have HE : Hid ((l.length : Nat) = k) := HLK.out
      go_wp2_with fail
      go_ret
      refine ⟨A', c', l, by rw [HLK.out]; rfl, by rw [HLK.out]; omega, by rw [HLK.out]; exact hkc, by rw [HLK.out]; exact HO.out, HC.out, HM.out⟩
/-- the cursor's own start -/
def CurN (w : World) (en : Ending) (w' : World) : Prop := en = .returned (.pointer (some ⟨w.heap.size, 0, none⟩)) ∧ Cur w' w.heap.size w.heap.size ∧ Below w.heap.size w w'
theorem l01New_c (A : Option Addr) (n c : Nat) (l : List UInt8) (w : World) (hr : Rd w w.heap.size 1 A n (bC l)) (hn : n ≤ 1048576) : Calls Try.prog 31 #[.slice A n c] w (CurN w) := by
  have hln := hide hr.bn
  go_enter Try.func31, Try.ntmps31
  go_wp2_with fail
  go_loop [3, 4] (fun hv iv => ∃ (k : Nat) (h : Int), k ≤ n ∧ iv = .int .i64 (k : Int) ∧ hv = .int .i64 h) (fun _ iv => n - (intOf iv).toNat)
  case atStart => exact ⟨0, _, by omega, rfl, rfl⟩
  case round =>
    obtain ⟨k, h, hk, rfl, rfl⟩ := hrel
    have fin : ∀ h : Int, Cur (w.alloc (.cells #[.slice A n c, .int .i64 0, .int .i64 h] 79)) w.heap.size w.heap.size := fun h =>
      ⟨A, n, c, l, 0, h, Blk.new _ _ _, by omega, Nat.le_refl _, hr.below ((Below.refl _ _).alloc (Nat.le_refl _) _) (Nat.le_refl _), hn⟩
    have FIN := hide fin
    clear fin
    by_cases hlt : k < n
    · obtain ⟨b, off, rfl, hblt, hl, hcb⟩ := hr.byte hlt
      by_cases h4 : k < 4000
      · go_wp2_with fail
        go_round
        case rel => exact ⟨k + 1, _, by omega, by go_num, rfl⟩
        case measure => simp [intOf]; omega
      · go_wp2_with fail
        go_ret
        exact ⟨rfl, FIN.out _, (by repeat (first | with_reducible exact Below.refl _ _ | with_reducible assumption | refine Below.alloc ?_ (by first | omega | (simp; done) | (simp; omega)) _ | refine Below.setCell ?_ (by first | omega | (simp; done) | (simp; omega)) _ | refine Below.drew ?_ | refine below_drewN ?_ _ | exact Below.refl _ _ | assumption))⟩
    · go_wp2_with fail
      go_ret
      exact ⟨rfl, FIN.out _, (by repeat (first | with_reducible exact Below.refl _ _ | with_reducible assumption | refine Below.alloc ?_ (by first | omega | (simp; done) | (simp; omega)) _ | refine Below.setCell ?_ (by first | omega | (simp; done) | (simp; omega)) _ | refine Below.drew ?_ | refine below_drewN ?_ _ | exact Below.refl _ _ | assumption))⟩
/-- a number, nothing else -/
def SmallN (m : Int) (w : World) (en : Ending) (w' : World) : Prop := ∃ r : Int, r ≤ m ∧ en = .returned (.int .i64 r) ∧ w = w'
theorem l01Size_c (A : Option Addr) (n c : Nat) (m : Int) (w : World) (hn : n ≤ 1048576) : Calls Try.prog 34 #[.slice A n c, .int .i64 m] w (SmallN m w) := by
  by_cases h : m < 2 + (n : Int) / 16
  · go_enter Try.func34, Try.ntmps34
    go_wp2_with fail
    go_ret
    exact ⟨m, by omega, rfl, rfl⟩
  · go_enter Try.func34, Try.ntmps34
    go_wp2_with fail
    go_ret
    exact ⟨2 + (n : Int) / 16, by omega, rfl, rfl⟩
/-- two numbers and bytes -/
def DrawT (w : World) (en : Ending) (w' : World) : Prop :=
  ∃ (k nonce : Int) (A : Option Addr) (c : Nat) (l : List UInt8), en = .returned (.tuple #[.int .i64 k, .int .i64 nonce, .slice A l.length c]) ∧ l.length ≤ 4096 ∧ l.length ≤ c ∧ w'.ownsRow w.heap.size 5 1 (.slice A l.length c) l.length (bC l) ∧ Below w.heap.size w w'
end Go.Proofs.Ytgkjgaijjihmgaa
