/- Shares of a secret: what the reference's function gives. -/
import Derived.Test.YtgkjgaijjihmgaaA23
import Derived.Test.YtgkjgaijjihmgaaA20
import Derived.Deep.RegionLaw
namespace Go.Proofs.Ytgkjgaijjihmgaa
open Go.RowKit Gf
set_option maxRecDepth 100000
set_option maxHeartbeats 1000000
def selc (w : World) (b : Nat) : Value := (w.cell? ⟨b, 1, none⟩).getD undef
theorem selc_eq {w : World} {b : Nat} {v : Value} (h : w.cell? ⟨b, 1, none⟩ = some v) : selc w b = v := by unfold selc; rw [h]; rfl
theorem selc_ok {w : World} {b : Nat} {v : Value} (h : w.cell? ⟨b, 1, none⟩ = some v) : w.cell? ⟨b, 1, none⟩ = some (selc w b) := by rw [selc_eq h, h]
theorem Way.drew {wr w2 : World} {seed : Int} {k x : Nat} {l : List UInt8} {i c2 : Nat} {A2 : Option Addr} {X : Int} (h : Way wr seed k x X l i c2 A2 w2) : Way wr seed k x X l i c2 A2 w2.drew :=
  ⟨h.box.drew, h.row, h.bel.drew, h.cap⟩
theorem ShO.made (w : World) (seed : Int) (k : Nat) (l : List UInt8) : ShO (w.alloc (.cells #[] 31)) w.heap.size 31 (some ⟨w.heap.size, 0, none⟩) 0 0 [] (spS seed k 0 l) :=
  ⟨rfl, World.ownsRow_made w #[] 0 (Nat.le_refl _) (by omega) rfl, fun k h => absurd h (by simp [spS]), fun i j hi => absurd hi (by simp)⟩
theorem SplitSecret_s (A : Option Addr) (m c : Nat) (l : List UInt8) (n k seed : Int) (w : World) (hr : Rd w w.heap.size 1 A m (bC l)) :
    Calls Try.prog 8 #[.slice A m c, .int .i64 n, .int .i64 k, .int .i64 seed] w (RetShs2 (spR l n k seed) (spOk l.length n k seed) w) := by
  have hln := hr.bn
  subst hln
  cases hok : spOk l.length n k seed
  · rw [sp_no hok]
    have hcs := sp_cases hok
    clear hok
    rcases hcs with h1 | ⟨h1, h2⟩ | ⟨h1, h2, h3⟩ | ⟨h1, h2, h3, h4⟩
    all_goals
      go_enter Try.func8, Try.ntmps8
      go_wp2_with (go_at_call 38; refine (l01In_c _ _ _ _).mono ?_; rintro e w' ⟨rfl, rfl⟩)
      go_ret2
      exact ⟨_, _, [], rfl, Nat.le_refl _, ShO.nil _ _ _, (by repeat (first | with_reducible exact Below.refl _ _ | with_reducible assumption | refine Below.alloc ?_ (by first | omega | (simp; done) | (simp; omega)) _ | refine Below.setCell ?_ (by first | omega | (simp; done) | (simp; omega)) _ | refine Below.drew ?_ | refine below_drewN ?_ _ | exact Below.refl _ _ | assumption))⟩
  · rw [sp_yes hok]
    unfold spOk at hok
    rw [Bool.and_eq_true, Bool.and_eq_true, Bool.and_eq_true] at hok
    obtain ⟨⟨⟨h1, h2⟩, h3⟩, h4⟩ := hok
    obtain ⟨a1, a2⟩ := inB_true.1 h1
    obtain ⟨a3, a4⟩ := inB_true.1 h2
    obtain ⟨a5, a6⟩ := inB_true.1 h3
    obtain ⟨a7, a8⟩ := inB_true.1 h4
    obtain ⟨N, rfl⟩ := Int.eq_ofNat_of_zero_le (show 0 ≤ n by omega)
    obtain ⟨K, rfl⟩ := Int.eq_ofNat_of_zero_le (show 0 ≤ k by omega)
    simp only [Int.toNat_natCast]
    have hl64 : l.length ≤ 64 := by omega
    have hN : N ≤ 12 := by omega
    have hK1 : 1 ≤ K := by omega
    have hKN : K ≤ N := by omega
    clear a1 a2 a3 a4 a5 a6
    go_enter Try.func8, Try.ntmps8
    go_wp2_with (go_at_call 38; refine (l01In_c _ _ _ _).mono ?_; rintro e w' ⟨rfl, rfl⟩)
    clear h1 h2 h3 h4
    go_loopw [10, 11, 12, 13, 14, 15] (fun v xv _ _ _ _ wr => ∃ (m c' : Nat) (A' : Option Addr) (hs : List (Option Addr × Nat)), m ≤ N ∧ xv = .int .i64 ((m : Int) + 1) ∧ v = .slice A' m c' ∧ m ≤ c' ∧ ShO wr w.heap.size 31 A' m c' hs (spS seed K m l) ∧ Below w.heap.size w wr) (fun _ xv _ _ _ _ _ => N + 1 - (intOf xv).toNat)
    case atStart => exact ⟨0, 0, _, [], by omega, rfl, rfl, Nat.le_refl _, ShO.made _ _ _ _, (by repeat (first | with_reducible exact Below.refl _ _ | with_reducible assumption | refine Below.alloc ?_ (by first | omega | (simp; done) | (simp; omega)) _ | refine Below.setCell ?_ (by first | omega | (simp; done) | (simp; omega)) _ | refine Below.drew ?_ | refine below_drewN ?_ _ | exact Below.refl _ _ | assumption))⟩
    case round =>
      obtain ⟨m, c', A', hs, hm, rfl, rfl, hmc, hO, hB⟩ := hrel
      obtain ⟨wo, rfl⟩ : ∃ wo : World, wo = wr := ⟨_, rfl⟩
      by_cases hlt : m < N
      · have HO := hide hO
        have hd1 : decide ((m : Int) + 1 ≤ (N : Int)) = true := decide_eq_true (by omega)
        clear hO
        go_wp2_with fail
        go_loopw [13, 14, 15] (fun iv _ _ w2 => ∃ (i c2 : Nat) (A2 : Option Addr), i ≤ l.length ∧ iv = .int .i64 (i : Int) ∧ Way wo seed K (m + 1) ((m : Int) + 1) l i c2 A2 w2) (fun iv _ _ _ => l.length - (intOf iv).toNat)
        case atStart => exact ⟨0, 0, none, by omega, rfl, ⟨Blk.new wo 31 _, World.ownsRow_nil _ _ _ _, (by repeat (first | with_reducible exact Below.refl _ _ | with_reducible assumption | refine Below.alloc ?_ (by first | omega | (simp; done) | (simp; omega)) _ | refine Below.setCell ?_ (by first | omega | (simp; done) | (simp; omega)) _ | refine Below.drew ?_ | refine below_drewN ?_ _ | exact Below.refl _ _ | assumption)), Nat.le_refl _⟩⟩
        case round =>
          obtain ⟨i, c2, A2, hi, rfl, hW⟩ := hrel
          by_cases hil : i < l.length
          · obtain ⟨b, off, rfl, hblt, hl, hcb⟩ := (hr.below (hB.trans (hW.bel.mono hB.size)) (Nat.le_refl _)).byte hil
            have qB := fun j => hW.box.cell j
            have hsz : wo.heap.size + 1 ≤ wr.heap.size := hW.box.lt
            have HW := hide hW
            have HB := hide hB
            clear hW hB
            go_wp2_with fail
            go_loop [14, 15] (fun v jv => ∃ t : Nat, t ≤ K - 1 ∧ v = .int .i64 ((hv seed i K (m + 1) t : Nat) : Int) ∧ jv = .int .i64 ((K - 1 - t : Nat) : Int)) (fun _ jv => (intOf jv).toNat)
            case atStart => exact ⟨0, by omega, rfl, int_eq (by omega)⟩
            case round =>
              obtain ⟨t, ht, rfl, rfl⟩ := hrel
              have hvl := hv_lt seed i K (m + 1) t
              by_cases htk : t < K - 1
              · have hnb := nz_bd seed i ((K - 1 - t : Nat) : Int)
                obtain ⟨z, hz⟩ := Int.eq_ofNat_of_zero_le hnb.1
                have hz256 : z < 256 := by omega
                have HN : Hid (Calls Try.prog 40 #[.int .i64 seed, .int .i64 i, .int .i64 ((K - 1 - t : Nat) : Int)] wr (Pure (.int .i64 z) wr)) := by
                  have h := Noise_s seed i ((K - 1 - t : Nat) : Int) wr
                  unfold nois at h
                  rw [inB_true.2 ⟨a7, a8⟩, inB_true.2 ⟨by omega, by omega⟩, inB_true.2 ⟨by omega, by omega⟩] at h
                  rw [← hz]
                  exact h
                have HX := hide (i64_xor_nat (hv seed i K (m + 1) t) z (by omega) (by omega))
                have hxl := xor_lt hvl hz256
                have HS : Hid (hv seed i K (m + 1) (t + 1) = gm (hv seed i K (m + 1) t ^^^ z) (m + 1)) := by
                  show hv seed i K (m + 1) (t + 1) = _
                  rw [hv, hz]; rfl
                have hpos : (0 : Int) < ((K - 1 - t : Nat) : Int) := by omega
                have HGM : Hid (Calls Try.prog 39 #[.int .i64 ((hv seed i K (m + 1) t ^^^ z : Nat) : Int), .int .i64 ((m : Int) + 1)] wr (Pure (.int .i64 ((gm (hv seed i K (m + 1) t ^^^ z) (m + 1) : Nat) : Int)) wr)) := by
                  have h := GMul_s ((hv seed i K (m + 1) t ^^^ z : Nat) : Int) ((m : Int) + 1) wr
                  unfold gmul at h
                  rw [if_pos ⟨by omega, by omega, by omega, by omega⟩] at h
                  exact h
                clear hz hnb
                go_wp2_with fail
                refine HN.out.mono ?_
                rintro e w' ⟨rfl, rfl⟩
                go_wp2_with fail
                rw [HX.out]
                refine HGM.out.mono ?_
                rintro e w' ⟨rfl, rfl⟩
                go_wp2_with fail
                go_round
                case rel => exact ⟨t + 1, by omega, by rw [HS.out], int_eq (by omega)⟩
                case measure => simp [intOf]; omega
              · have htK : t = K - 1 := by omega
                subst htK
                have hz0 : ¬ (0 : Int) < ((K - 1 - (K - 1) : Nat) : Int) := by omega
                have HX8 : Hid (IntKind.u8.wrap (bits .xor .i64 ((hv seed i K (m + 1) (K - 1) : Nat) : Int) (IntKind.i64.wrap (l[i].toNat : Int))) = ((UInt8.ofNat (hv seed i K (m + 1) (K - 1)) ^^^ l[i]).toNat : Int)) := by
                  have h1 := l[i].toNat_lt
                  have h2 := xor_lt hvl h1
                  show IntKind.u8.wrap (bits .xor .i64 ((hv seed i K (m + 1) (K - 1) : Nat) : Int) (IntKind.i64.wrap (l[i].toNat : Int))) = _
                  rw [IntKind.wrap_u8', IntKind.wrap_i64, show ((l[i].toNat : Int) + 9223372036854775808) % 18446744073709551616 - 9223372036854775808 = (l[i].toNat : Int) from by omega, i64_xor_nat _ _ (by omega) (by omega), UInt8.toNat_xor, UInt8.toNat_ofNat', Nat.mod_eq_of_lt (by omega)]
                  omega
                have hlt1 : wo.heap.size < wr.heap.size := by omega
                have hlt2 : b < wr.heap.size := by have := HB.out.size; omega
                have HWD := hide HW.out.drew
                have HR := hide HWD.out.row
                have HT := hide (spB_take (seed := seed) (k := K) (x := m + 1) hil)
                have i0 : (0 : Int) ≤ (i : Int) := by omega
                have i1 : (i : Int) < (l.length : Int) := by omega
                have hbo : b < wo.heap.size := by have := HB.out.size; omega
                have HCB := hide hcb
                have HQB := hide qB
                go_wp2_with fail
                go_region_law ((refine step_push wr.drew (by rfl) (.tmp 65) (.tmp 74) 22 (by rfl) (wo.heap.size + 1) 5 (.int .u8 0) 1 1 Try.underlying22 info5 rfl (by omega) A2 i c2 _ [_] (by rfl) HR.out (by rfl) (by rfl) (by simp [Value.oneCell']) (by omega) (by omega) hsz ?_; intro A3 c3 w3 hc3 hown3 hg3 _; have hcb3 := (far_cell hg3 b (off + i) (by show b < wr.heap.size; omega) (fun a ha => by have hr3 := HR.out; subst ha; obtain ⟨_, _, hlo3⟩ := own_type hr3; omega)).trans HCB.out; obtain ⟨HWAY, hcl, hfr⟩ : Hid (Way wo seed K (m + 1) ((m : Int) + 1) l (i + 1) c3 A3 (w3.setCell ⟨wo.heap.size, 1, none⟩ (.slice A3 (i + 1) c3))) ∧ (∀ j, w3.cell? ⟨wo.heap.size, j, none⟩ = #[Value.int .i64 ((m : Int) + 1), .slice A2 i c2][j]?) ∧ (∀ j, w3.frozen? ⟨wo.heap.size, j, none⟩ = false) := HWD.out.step hc3 (by rw [← HT.out, ← HX8.out]; exact hown3) hg3))
                all_goals
                  go_wp2_with fail
                  exact ⟨⟨i + 1, c3, A3, by omega, by go_num, HWAY.out⟩, by simp [intOf]; omega⟩
          · have hiE : i = l.length := by omega
            subst hiE
            have HT : Hid ((spB seed K (m + 1) l).take l.length = spB seed K (m + 1) l) := List.take_of_length_le (by rw [spB_length]; exact Nat.le_refl _)
            have qB := fun j => hW.box.cell j
            have hsz : wo.heap.size + 1 ≤ wr.heap.size := hW.box.lt
            have hzB := hB.size
            have hrow := (HO.out.below hW.bel).row
            have hP := fun (w4 : World) (A4 : Option Addr) (c4 : Nat) => HO.out.push (w2 := w4) (A' := A4) (c' := c4) (s := ((m : Int) + 1, spB seed K (m + 1) l)) (by omega) hB.size hW.bel (by
              have h := own_mono (base' := wo.heap.size) hW.row (by omega)
              rw [HT.out] at h
              show wr.ownsRow wo.heap.size 5 1 (.slice A2 (spB seed K (m + 1) l).length c2) (spB seed K (m + 1) l).length (bC (spB seed K (m + 1) l))
              rw [spB_length]
              exact h)
            have HS : Hid (spS seed K (m + 1) l = spS seed K m l ++ [((m : Int) + 1, spB seed K (m + 1) l)]) := by
              show spS seed K (m + 1) l = _
              rw [spS_succ]
              rfl
            have HP := hide hP
            have HR := hide hrow
            have HBB := hide (then_ hB hW.bel hB.size)
            have HBO := hide hB
            clear hP hrow hW hB
            go_wp2_with (at_builtin; refine wpList_push wr rfl (.tmp 77) (.tmp 79) 26 rfl w.heap.size 31 _ 2 32 Try.underlying26 info40 rfl (by omega) A' m c' _ [.int .i64 ((m : Int) + 1), .slice A2 l.length c2] rfl HR.out rfl rfl (by simp [Value.oneCell']) (by omega) (by omega) (by omega) ?_; intro A4 c4 w4 hc4 hown4 hg4 _; have hB4 : Below w.heap.size w w4 := HBB.out.trans (grown_below HR.out hg4 (by omega)); have hP4 := HP.out w4 A4 c4 (by show w4.ownsRow w.heap.size 31 2 (.slice A4 (m + 1) c4) (m + 1) (shC hs (spS seed K m l) ++ [.int .i64 ((m : Int) + 1), .slice A2 (spB seed K (m + 1) l).length c2]); rw [spB_length]; exact hown4) hg4; have HP4 := hide hP4; clear hP4 hown4 hg4)
            exact ⟨⟨m + 1, c4, A4, _, by omega, int_eq (by omega), rfl, hc4, by rw [HS.out]; exact HP4.out, hB4⟩, by simp [intOf]; omega⟩
      · have hmE : m = N := by omega
        subst hmE
        have HL := hide (spS_length seed K m l)
        have HO := hide hO
        clear hO
        go_wp2_with fail
        go_ret2
        exact ⟨_, _, _, by rw [HL.out]; rfl, by rw [HL.out]; exact hmc, by rw [HL.out]; exact HO.out, hB⟩
theorem cnt_spS (seed : Int) (k n : Nat) (l : List UInt8) : cntS (spS seed k n l) = n * (1 + l.length) := by
  induction n with
  | zero => simp [spS, cntS]
  | succ n ih =>
    rw [spS_succ, cntS_append, ih]
    simp only [cntS, spB_length]
    rw [Nat.succ_mul]
    omega
theorem cnt_spR (l : List UInt8) (n k seed : Int) : cntS (spR l n k seed) ≤ 1000 := by
  cases h : spOk l.length n k seed
  · rw [sp_no h]; simp [cntS]
  · rw [sp_yes h, cnt_spS]
    unfold spOk at h
    rw [Bool.and_eq_true, Bool.and_eq_true, Bool.and_eq_true] at h
    have h1 := inB_true.1 h.1.1.1
    have h2 := inB_true.1 h.1.1.2
    have := Nat.mul_le_mul (show n.toNat ≤ 12 by omega) (show 1 + l.length ≤ 65 by omega)
    omega
end Go.Proofs.Ytgkjgaijjihmgaa
