/- Shares of a secret: what the program's function gives. -/
import Derived.Test.YtgkjgaijjihmgaaP2
import Derived.Test.YtgkjgaijjihmgaaMem8
import Derived.Test.YtgkjgaijjihmgaaA19
namespace Go.Proofs.Ytgkjgaijjihmgaa
open Go.RowKit Gf
set_option maxRecDepth 100000
set_option maxHeartbeats 1000000
def spOk (m : Nat) (n k seed : Int) : Bool := inB m 1 64 && inB n 1 12 && inB k 1 n && inB seed 0 2147483647
def spR (l : List UInt8) (n k seed : Int) : List Sh := if spOk l.length n k seed then spS seed k.toNat n.toNat l else []
theorem sp_no {l : List UInt8} {n k seed : Int} (h : spOk l.length n k seed = false) : spR l n k seed = [] := by unfold spR; rw [h]; rfl
theorem sp_yes {l : List UInt8} {n k seed : Int} (h : spOk l.length n k seed = true) : spR l n k seed = spS seed k.toNat n.toNat l := by unfold spR; rw [h]; rfl
theorem sp_cases {m : Nat} {n k seed : Int} (h : spOk m n k seed = false) : inB m 1 64 = false ∨ (inB m 1 64 = true ∧ inB n 1 12 = false) ∨ (inB m 1 64 = true ∧ inB n 1 12 = true ∧ inB k 1 n = false) ∨ (inB m 1 64 = true ∧ inB n 1 12 = true ∧ inB k 1 n = true ∧ inB seed 0 2147483647 = false) := by
  unfold spOk at h
  cases h1 : inB m 1 64 <;> cases h2 : inB n 1 12 <;> cases h3 : inB k 1 n <;> simp_all
def RetShs2 (ss : List Sh) (ok : Bool) (w : World) (en : Ending) (w' : World) : Prop :=
  ∃ A c hs, en = .returned (.tuple #[.slice A ss.length c, .bool ok]) ∧ ss.length ≤ c ∧ ShO w' w.heap.size 31 A ss.length c hs ss ∧ Below w.heap.size w w'
theorem spB_take {seed : Int} {k x : Nat} {l : List UInt8} {i : Nat} (h : i < l.length) : bC ((spB seed k x l).take i) ++ [.int .u8 ((UInt8.ofNat (hv seed i k x (k - 1)) ^^^ l[i]).toNat : Int)] = bC ((spB seed k x l).take (i + 1)) := by
  have hl : i < (spB seed k x l).length := by rw [spB_length]; exact h
  rw [← bC_succ hl, spB_get seed k x l i hl h]
/-- a share under way: its box, its bytes so far -/
structure Way (wr : World) (seed : Int) (k x : Nat) (X : Int) (l : List UInt8) (i c2 : Nat) (A2 : Option Addr) (w2 : World) : Prop where
  box : Blk w2 wr.heap.size 31 #[.int .i64 X, .slice A2 i c2]
  row : w2.ownsRow (wr.heap.size + 1) 5 1 (.slice A2 i c2) i (bC ((spB seed k x l).take i))
  bel : Below wr.heap.size wr w2
  cap : i ≤ c2
theorem Way.step {wr w2 w3 : World} {seed : Int} {k x : Nat} {l : List UInt8} {i c2 c3 : Nat} {A2 A3 : Option Addr} {X : Int} (h : Way wr seed k x X l i c2 A2 w2) (hc : i + 1 ≤ c3)
    (hr : w3.ownsRow (wr.heap.size + 1) 5 1 (.slice A3 (i + 1) c3) (i + 1) (bC ((spB seed k x l).take (i + 1)))) (hg : w2.grownBy w3 (Value.slice A2 i c2).ownBlock) :
    Way wr seed k x X l (i + 1) c3 A3 (w3.setCell ⟨wr.heap.size, 1, none⟩ (.slice A3 (i + 1) c3)) ∧ (∀ j, w3.cell? ⟨wr.heap.size, j, none⟩ = #[Value.int .i64 X, .slice A2 i c2][j]?) ∧ ∀ j, w3.frozen? ⟨wr.heap.size, j, none⟩ = false := by
  have hne : ∀ a, A2 = some a → a.block ≠ wr.heap.size := by
    intro a ha
    subst ha
    obtain ⟨cur, _, hlo⟩ := own_type h.row
    omega
  have hb : Blk w3 wr.heap.size 31 #[.int .i64 X, .slice A2 i c2] := (far_block hg wr.heap.size h.box.lt hne).trans h.box
  have hz := hg.size
  refine ⟨⟨?_, ?_, ?_, hc⟩, fun j => hb.cell j, fun j => hb.frozen j⟩
  · exact hb.set 1 (.slice A3 (i + 1) c3)
  · refine own_keep hr fun a ha => ?_
    subst ha
    obtain ⟨_, _, hlo⟩ := own_type hr
    exact Below.heap_setCell _ _ _ _ (by show a.block ≠ wr.heap.size; omega)
  · refine Below.setCell (h.bel.trans ?_) (Nat.le_refl _) _
    exact ⟨hg.os, hg.tape, hg.output, hg.size, fun b hb' => far_block hg b (Nat.lt_of_lt_of_le hb' h.bel.size) fun a ha => by
      subst ha
      obtain ⟨_, _, hlo⟩ := own_type h.row
      omega⟩
theorem SplitSecret_i (A : Option Addr) (m c : Nat) (l : List UInt8) (n k seed : Int) (w : World) (hr : Rd w w.heap.size 1 A m (bC l)) :
    Calls Try.prog 9 #[.slice A m c, .int .i64 n, .int .i64 k, .int .i64 seed] w (RetShs2 (spR l n k seed) (spOk l.length n k seed) w) := by
  have hln := hr.bn
  subst hln
  cases hok : spOk l.length n k seed
  · rw [sp_no hok]
    have hcs := sp_cases hok
    clear hok
    rcases hcs with h1 | ⟨h1, h2⟩ | ⟨h1, h2, h3⟩ | ⟨h1, h2, h3, h4⟩
    all_goals
      go_enter Try.func9, Try.ntmps9
      go_wp2_with (first | (go_at_call 41; refine (within_c _ _ _ _).mono ?_; rintro e w' ⟨rfl, rfl⟩) | (go_at_call 42; refine (isSeed_c _ _).mono ?_; rintro e w' ⟨rfl, rfl⟩))
      go_ret2
      exact ⟨_, _, _, rfl, Nat.le_refl _, ShO.nil _ _ _, (by repeat (first | with_reducible exact Below.refl _ _ | with_reducible assumption | refine Below.alloc ?_ (by first | omega | (simp; done) | (simp; omega)) _ | refine Below.setCell ?_ (by first | omega | (simp; done) | (simp; omega)) _ | refine Below.drew ?_ | refine below_drewN ?_ _ | exact Below.refl _ _ | assumption))⟩
  · rw [sp_yes hok]
    unfold spOk at hok
    rw [Bool.and_eq_true, Bool.and_eq_true, Bool.and_eq_true] at hok
    obtain ⟨⟨⟨h1, h2⟩, h3⟩, h4⟩ := hok
    obtain ⟨a1, a2⟩ := inB_true.1 h1
    obtain ⟨a3, a4⟩ := inB_true.1 h2
    obtain ⟨a5, a6⟩ := inB_true.1 h3
    obtain ⟨a7, a8⟩ := inB_true.1 h4
    obtain ⟨N, rfl⟩ := Int.eq_ofNat_of_zero_le (show 0 ≤ n by omega)
    obtain ⟨K, rfl⟩ := Int.eq_ofNat_of_zero_le (show 0 ≤ k by omega)
    simp only [Int.toNat_natCast]
    have hl64 : l.length ≤ 64 := by omega
    have hN : N ≤ 12 := by omega
    have hK1 : 1 ≤ K := by omega
    have hKN : K ≤ N := by omega
    clear a1 a2 a3 a4 a5 a6
    go_enter Try.func9, Try.ntmps9
    go_wp2_with (first | (go_at_call 41; refine (within_c _ _ _ _).mono ?_; rintro e w' ⟨rfl, rfl⟩) | (go_at_call 42; refine (isSeed_c _ _).mono ?_; rintro e w' ⟨rfl, rfl⟩))
    clear h1 h2 h3 h4
    go_loopw [10, 11, 12, 13, 14, 15, 16, 46] (fun v xv _ _ _ _ _ _ wr => ∃ (m c' : Nat) (A' : Option Addr) (hs : List (Option Addr × Nat)), m ≤ N ∧ xv = .int .i64 ((m : Int) + 1) ∧ v = .slice A' m c' ∧ m ≤ c' ∧ ShO wr w.heap.size 31 A' m c' hs (spS seed K m l) ∧ Below w.heap.size w wr) (fun _ xv _ _ _ _ _ _ _ => N + 1 - (intOf xv).toNat)
    case atStart => exact ⟨0, 0, none, [], by omega, rfl, rfl, Nat.le_refl _, ShO.nil _ _ _, Below.refl _ _⟩
    case round =>
      obtain ⟨m, c', A', hs, hm, rfl, rfl, hmc, hO, hB⟩ := hrel
      obtain ⟨wo, rfl⟩ : ∃ wo : World, wo = wr := ⟨_, rfl⟩
      by_cases hlt : m < N
      · have HO := hide hO
        have hd1 : decide ((m : Int) + 1 ≤ (N : Int)) = true := decide_eq_true (by omega)
        clear hO
        go_wp2_with fail
        go_loopw [13, 14, 15, 16, 46] (fun _ _ _ _ iv w2 => ∃ (i c2 : Nat) (A2 : Option Addr), i ≤ l.length ∧ iv = .int .i64 (i : Int) ∧ Way wo seed K (m + 1) ((m : Int) + 1) l i c2 A2 w2) (fun _ _ _ _ iv _ => l.length - (intOf iv).toNat)
        case atStart => exact ⟨0, 0, none, by omega, rfl, ⟨Blk.new wo 31 _, World.ownsRow_nil _ _ _ _, (by repeat (first | with_reducible exact Below.refl _ _ | with_reducible assumption | refine Below.alloc ?_ (by first | omega | (simp; done) | (simp; omega)) _ | refine Below.setCell ?_ (by first | omega | (simp; done) | (simp; omega)) _ | refine Below.drew ?_ | refine below_drewN ?_ _ | exact Below.refl _ _ | assumption)), Nat.le_refl _⟩⟩
        case round =>
          obtain ⟨i, c2, A2, hi, rfl, hW⟩ := hrel
          by_cases hil : i < l.length
          · obtain ⟨b, off, rfl, hblt, hl, hcb⟩ := (hr.below (hB.trans (hW.bel.mono hB.size)) (Nat.le_refl _)).byte hil
            have qB := fun j => hW.box.cell j
            have hsz : wo.heap.size + 1 ≤ wr.heap.size := hW.box.lt
            have HW := hide hW
            have HB := hide hB
            clear hW hB
            go_wp2_with fail
            go_loop [15, 16] (fun v jv => ∃ t : Nat, t ≤ K - 1 ∧ v = .int .i64 ((hv seed i K (m + 1) t : Nat) : Int) ∧ jv = .int .i64 ((K - 1 - t : Nat) : Int)) (fun _ jv => (intOf jv).toNat)
            case atStart => exact ⟨0, by omega, rfl, int_eq (by omega)⟩
            case round =>
              obtain ⟨t, ht, rfl, rfl⟩ := hrel
              have hvl := hv_lt seed i K (m + 1) t
              by_cases htk : t < K - 1
              · have hnb := nz_bd seed i ((K - 1 - t : Nat) : Int)
                obtain ⟨z, hz⟩ := Int.eq_ofNat_of_zero_le hnb.1
                have hz256 : z < 256 := by omega
                have HN := hide (noise_c seed i ((K - 1 - t : Nat) : Int) wr (by omega) (by omega) (by omega) (by omega) (by omega) (by omega))
                rw [hz] at HN
                have HX := hide (i64_xor_nat (hv seed i K (m + 1) t) z (by omega) (by omega))
                have hxl := xor_lt hvl hz256
                have HS : Hid (hv seed i K (m + 1) (t + 1) = gm (hv seed i K (m + 1) t ^^^ z) (m + 1)) := by
                  show hv seed i K (m + 1) (t + 1) = _
                  rw [hv, hz]; rfl
                have hpos : (0 : Int) < ((K - 1 - t : Nat) : Int) := by omega
                clear hz hnb
                go_wp2_with fail
                refine HN.out.mono ?_
                rintro e w' ⟨rfl, rfl⟩
                go_wp2_with fail
                rw [HX.out]
                refine (gMul_c _ _ _ (by omega) (by omega) (by omega) (by omega)).mono ?_
                rintro e w' ⟨rfl, rfl⟩
                go_wp2_with fail
                go_round
                case rel => exact ⟨t + 1, by omega, by rw [HS.out], int_eq (by omega)⟩
                case measure => simp [intOf]; omega
              · have htK : t = K - 1 := by omega
                subst htK
                have hz0 : ¬ (0 : Int) < ((K - 1 - (K - 1) : Nat) : Int) := by omega
                have HX8 : Hid (bits .xor .u8 ((hv seed i K (m + 1) (K - 1) : Nat) : Int) (l[i].toNat : Int) = ((UInt8.ofNat (hv seed i K (m + 1) (K - 1)) ^^^ l[i]).toNat : Int)) := by
                  have := u8x (UInt8.ofNat (hv seed i K (m + 1) (K - 1))) l[i]
                  rw [UInt8.toNat_ofNat', Nat.mod_eq_of_lt (by omega)] at this
                  exact this
                have HR := hide HW.out.row
                have HT := hide (spB_take (seed := seed) (k := K) (x := m + 1) hil)
                go_wp2_with (at_builtin; refine wpList_push wr rfl (.tmp 66) (.tmp 71) 22 rfl (wo.heap.size + 1) 5 _ 1 1 Try.underlying22 info5 rfl (by omega) A2 i c2 _ [.int .u8 (bits .xor .u8 ((hv seed i K (m + 1) (K - 1) : Nat) : Int) (l[i].toNat : Int))] rfl HR.out rfl rfl (by simp [Value.oneCell']) (by omega) (by omega) hsz ?_; intro A3 c3 w3 hc3 hown3 hg3 _; rw [HX8.out, HT.out] at hown3; obtain ⟨hway, hcl, hfr⟩ := HW.out.step hc3 hown3 hg3; have HWAY := hide hway; clear hway hown3 hg3)
                exact ⟨⟨i + 1, c3, A3, by omega, by go_num, HWAY.out⟩, by simp [intOf]; omega⟩
          · have hiE : i = l.length := by omega
            subst hiE
            have HT : Hid ((spB seed K (m + 1) l).take l.length = spB seed K (m + 1) l) := List.take_of_length_le (by rw [spB_length]; exact Nat.le_refl _)
            have qB := fun j => hW.box.cell j
            have hsz : wo.heap.size + 1 ≤ wr.heap.size := hW.box.lt
            have hzB := hB.size
            have hrow := (HO.out.below hW.bel).row
            have hP := fun (w4 : World) (A4 : Option Addr) (c4 : Nat) => HO.out.push (w2 := w4) (A' := A4) (c' := c4) (s := ((m : Int) + 1, spB seed K (m + 1) l)) (by omega) hB.size hW.bel (by
              have h := own_mono (base' := wo.heap.size) hW.row (by omega)
              rw [HT.out] at h
              show wr.ownsRow wo.heap.size 5 1 (.slice A2 (spB seed K (m + 1) l).length c2) (spB seed K (m + 1) l).length (bC (spB seed K (m + 1) l))
              rw [spB_length]
              exact h)
            have HS : Hid (spS seed K (m + 1) l = spS seed K m l ++ [((m : Int) + 1, spB seed K (m + 1) l)]) := by
              show spS seed K (m + 1) l = _
              rw [spS_succ]
              rfl
            have HP := hide hP
            have HR := hide hrow
            have HBB := hide (then_ hB hW.bel hB.size)
            have HBO := hide hB
            clear hP hrow hW hB
            go_wp2_with (at_builtin; refine wpList_push wr rfl (.tmp 75) (.tmp 77) 26 rfl w.heap.size 31 _ 2 32 Try.underlying26 info40 rfl (by omega) A' m c' _ [.int .i64 ((m : Int) + 1), .slice A2 l.length c2] rfl HR.out rfl rfl (by simp [Value.oneCell']) (by omega) (by omega) (by omega) ?_; intro A4 c4 w4 hc4 hown4 hg4 _; have hB4 : Below w.heap.size w w4 := HBB.out.trans (grown_below HR.out hg4 (by omega)); have hP4 := HP.out w4 A4 c4 (by show w4.ownsRow w.heap.size 31 2 (.slice A4 (m + 1) c4) (m + 1) (shC hs (spS seed K m l) ++ [.int .i64 ((m : Int) + 1), .slice A2 (spB seed K (m + 1) l).length c2]); rw [spB_length]; exact hown4) hg4; have HP4 := hide hP4; clear hP4 hown4 hg4)
            exact ⟨⟨m + 1, c4, A4, _, by omega, int_eq (by omega), rfl, hc4, by rw [HS.out]; exact HP4.out, hB4⟩, by simp [intOf]; omega⟩
      · have hmE : m = N := by omega
        subst hmE
        have HL := hide (spS_length seed K m l)
        have HO := hide hO
        clear hO
        go_wp2_with fail
        go_ret2
        exact ⟨_, _, _, by rw [HL.out]; rfl, by rw [HL.out]; exact hmc, by rw [HL.out]; exact HO.out, hB⟩
end Go.Proofs.Ytgkjgaijjihmgaa
