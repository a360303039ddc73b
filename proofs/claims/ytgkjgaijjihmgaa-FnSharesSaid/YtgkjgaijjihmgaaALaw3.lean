/- Walk of the law on the field of bytes: it returns true. -/
import Derived.Test.YtgkjgaijjihmgaaA4
namespace Go.Proofs.Ytgkjgaijjihmgaa
open Go.RowKit Gf
set_option maxRecDepth 100000
set_option maxHeartbeats 400000
theorem big_c (A : Option Addr) (n c : Nat) (w : World) (hn : n ≤ 9223372036854775807) : Calls Try.prog 6 #[.slice A n c] w (Pure (.bool (decide (1048576 < n))) w) := by
  have e : Hid (decide (1048576 < n) = decide (1048576 < n)) := rfl
  by_cases h : 1048576 < n
  all_goals
    go_enter Try.func6, Try.ntmps6
    go_wp2
    go_ret
    exact ⟨by simp; omega, rfl⟩
def atV (l : List UInt8) (i : Int) : Int := if h : i.toNat < l.length then ((l[i.toNat]).toNat : Int) else (i * 13 + (l.length : Int) * 5) % 256
theorem atV_bd (l : List UInt8) (i : Int) : 0 ≤ atV l i ∧ atV l i < 256 := by
  unfold atV
  split
  · rename_i h; have := UInt8.toNat_lt l[i.toNat]; omega
  · omega
theorem at_c (A : Option Addr) (n c : Nat) (l : List UInt8) (i : Int) (w : World) (hi : Nat) (hr : Rd w hi 1 A n (bC l)) (hn : n ≤ 1048576) (h0 : 0 ≤ i) (h1 : i ≤ 1000000) :
    Calls Try.prog 11 #[.slice A n c, .int .i64 i] w (Pure (.int .i64 (atV l i)) w) := by
  have hln := hide hr.bn
  obtain ⟨k, rfl⟩ := Int.eq_ofNat_of_zero_le h0
  clear h0
  by_cases hlt : k < n
  · obtain ⟨b, off, rfl, _, hl, hc⟩ := hr.byte hlt
    have e : Hid (atV l k = (l[k].toNat : Int)) := by show atV l k = _; unfold atV; rw [dif_pos (by simpa using hl)]; rfl
    have hx := UInt8.toNat_lt l[k]
    go_enter Try.func11, Try.ntmps11
    go_wp2
    go_ret
    exact ⟨ret_int e.out.symm, rfl⟩
  · have e : Hid (atV l k = ((k : Int) * 13 + (n : Int) * 5) % 256) := by
      have := hln.out
      show atV l k = _; unfold atV; rw [dif_neg (by simp; omega), this]
    go_enter Try.func11, Try.ntmps11
    go_wp2
    go_ret
    exact ⟨ret_int e.out.symm, rfl⟩
theorem gmul_gm {a b : Int} (ha : 0 ≤ a) (ha' : a < 256) (hb : 0 ≤ b) (hb' : b < 256) : gmul a b = (gm a.toNat b.toNat : Int) := if_pos ⟨ha, ha', hb, hb'⟩
theorem xor_nat {a b : Int} (ha : 0 ≤ a) (ha' : a < 256) (hb : 0 ≤ b) (hb' : b < 256) : bits .xor .i64 a b = ((a.toNat ^^^ b.toNat : Nat) : Int) := by
  obtain ⟨x, rfl⟩ := Int.eq_ofNat_of_zero_le ha
  obtain ⟨y, rfl⟩ := Int.eq_ofNat_of_zero_le hb
  simpa using i64_xor_nat x y (by omega) (by omega)
theorem field_comm {a b : Int} (ha : 0 ≤ a) (ha' : a < 256) (hb : 0 ≤ b) (hb' : b < 256) : (gmul a b != gmul b a) = false := by
  rw [gmul_gm ha ha' hb hb', gmul_gm hb hb' ha ha', gm_comm (by omega) (by omega)]; simp
theorem field_assoc {a b c : Int} (ha : 0 ≤ a) (ha' : a < 256) (hb : 0 ≤ b) (hb' : b < 256) (hc : 0 ≤ c) (hc' : c < 256) : (gmul (gmul a b) c != gmul a (gmul b c)) = false := by
  have h1 := gm_lt (x := a.toNat) b.toNat (by omega)
  have h2 := gm_lt (x := b.toNat) c.toNat (by omega)
  rw [gmul_gm ha ha' hb hb', gmul_gm hb hb' hc hc', gmul_gm (by omega) (by omega) hc hc', gmul_gm ha ha' (by omega) (by omega)]
  simp [gm_assoc (x := a.toNat) (y := b.toNat) (z := c.toNat) (by omega) (by omega) (by omega)]
theorem field_dist {a b c : Int} (ha : 0 ≤ a) (ha' : a < 256) (hb : 0 ≤ b) (hb' : b < 256) (hc : 0 ≤ c) (hc' : c < 256) : (gmul a (bits .xor .i64 b c) != bits .xor .i64 (gmul a b) (gmul a c)) = false := by
  have h1 := gm_lt (x := a.toNat) b.toNat (by omega)
  have h2 := gm_lt (x := a.toNat) c.toNat (by omega)
  have h3 := xor_lt (a := b.toNat) (b := c.toNat) (by omega) (by omega)
  rw [xor_nat hb hb' hc hc', gmul_gm ha ha' hb hb', gmul_gm ha ha' hc hc', gmul_gm ha ha' (by omega) (by omega), xor_nat (by omega) (by omega) (by omega) (by omega)]
  simp [gm_xor_right]
theorem field_inv {a : Int} (ha : 1 ≤ a) (ha' : a < 256) : (gmul a (ginv a) == 1) = true := by
  have h1 := gi_lt (a := a.toNat)
  rw [ginv, if_pos (by omega), gmul_gm (by omega) ha' (by omega) (by omega)]
  simp [gm_gi (a := a.toNat) (by omega) (by omega)]
end Go.Proofs.Ytgkjgaijjihmgaa
