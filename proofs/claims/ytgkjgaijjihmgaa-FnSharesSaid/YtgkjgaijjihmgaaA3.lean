/- What the functions that make slices by append give. -/
import Derived.Test.YtgkjgaijjihmgaaA2
namespace Go.Proofs.Ytgkjgaijjihmgaa
open Go.RowKit Gf
set_option maxRecDepth 100000
set_option maxHeartbeats 400000
theorem l01Bytes_c (A : Option Addr) (n c : Nat) (l : List UInt8) (w : World) (hr : Rd w w.heap.size 1 A n (bC l)) (hn : n ≤ 1099511627776) :
    Calls Try.prog 61 #[.slice A n c] w (RetRow 5 1 n (bC l) w) := by
  have hln := hide hr.bn
  go_enter Try.func61, Try.ntmps61
  go_wp2_with fail
  go_loopw [3, 4] (fun v i wr => ∃ k A' c', k ≤ n ∧ i = .int .i64 ((k : Nat) : Int) ∧ v = .slice A' k c' ∧ k ≤ c' ∧ wr.ownsRow w.heap.size 5 1 (.slice A' k c') k (bC (l.take k)) ∧ Below w.heap.size w wr) (fun _ i _ => n - (intOf i).toNat)
  case atStart => exact ⟨0, _, _, by omega, rfl, rfl, Nat.le_refl _, World.ownsRow_made w #[] 0 (Nat.le_refl _) (by omega) rfl, (Below.refl _ _).alloc (Nat.le_refl _) _⟩
  case round =>
    obtain ⟨k, A', c', hk, rfl, rfl, hkc, hown, hb⟩ := hrel
    by_cases hlt : k < n
    · have hr' := hr.below hb (Nat.le_refl _)
      obtain ⟨b, off, rfl, hblt, hl, hc⟩ := hr'.byte hlt
      have hsz := hb.size
      have HB := hide hb
      have HO := hide hown
      clear hr' hb hown
      go_wp2_with (at_builtin; refine wpList_push wr rfl (.tmp 12) (.tmp 17) 22 rfl w.heap.size 5 _ 1 1 Try.underlying22 info5 rfl (by omega) A' k c' _ [.int .u8 (l[k].toNat : Int)] rfl HO.out rfl rfl (by simp [Value.oneCell']) (by omega) (by omega) hsz ?_; intro A'' c'' w1 hc1 hown1 hg1 _)
      rw [bC_succ hl] at hown1
      exact ⟨⟨k + 1, A'', c'', by omega, by go_num, rfl, hc1, hown1, HB.out.trans (grown_below HO.out hg1 hsz)⟩, by simp [intOf]; omega⟩
    · have HE : Hid (l.take k = l) := by have := hln.out; exact List.take_of_length_le (by omega)
      have HK : Hid (k = n) := by show k = n; omega
      rw [HE.out, HK.out] at hown
      have HB := hide hb
      have HO := hide hown
      clear hb hown
      go_wp2
      go_ret
      exact ⟨_, _, by rw [show k = n from HK.out]; rfl, by omega, HO.out, HB.out⟩
theorem cpBytes_c (A : Option Addr) (n c : Nat) (l : List UInt8) (w : World) (hr : Rd w w.heap.size 1 A n (bC l)) (hn : n ≤ 1099511627776) :
    Calls Try.prog 10 #[.slice A n c] w (RetRow 5 1 n (bC l) w) := by
  have hln := hide hr.bn
  go_enter Try.func10, Try.ntmps10
  go_wp2_with fail
  go_loopw [3, 4] (fun v i wr => ∃ k A' c', k ≤ n ∧ i = .int .i64 ((k : Nat) : Int) ∧ v = .slice A' k c' ∧ k ≤ c' ∧ wr.ownsRow w.heap.size 5 1 (.slice A' k c') k (bC (l.take k)) ∧ Below w.heap.size w wr) (fun _ i _ => n - (intOf i).toNat)
  case atStart => exact ⟨0, _, _, by omega, rfl, rfl, Nat.le_refl _, World.ownsRow_made w #[] 0 (Nat.le_refl _) (by omega) rfl, (Below.refl _ _).alloc (Nat.le_refl _) _⟩
  case round =>
    obtain ⟨k, A', c', hk, rfl, rfl, hkc, hown, hb⟩ := hrel
    by_cases hlt : k < n
    · have hr' := hr.below hb (Nat.le_refl _)
      obtain ⟨b, off, rfl, hblt, hl, hc⟩ := hr'.byte hlt
      have hsz := hb.size
      have HB := hide hb
      have HO := hide hown
      clear hr' hb hown
      go_wp2_with (at_builtin; refine wpList_push wr rfl (.tmp 12) (.tmp 17) 22 rfl w.heap.size 5 _ 1 1 Try.underlying22 info5 rfl (by omega) A' k c' _ [.int .u8 (l[k].toNat : Int)] rfl HO.out rfl rfl (by simp [Value.oneCell']) (by omega) (by omega) hsz ?_; intro A'' c'' w1 hc1 hown1 hg1 _)
      rw [bC_succ hl] at hown1
      exact ⟨⟨k + 1, A'', c'', by omega, by go_num, rfl, hc1, hown1, HB.out.trans (grown_below HO.out hg1 hsz)⟩, by simp [intOf]; omega⟩
    · have HE : Hid (l.take k = l) := by have := hln.out; exact List.take_of_length_le (by omega)
      have HK : Hid (k = n) := by show k = n; omega
      rw [HE.out, HK.out] at hown
      have HB := hide hb
      have HO := hide hown
      clear hb hown
      go_wp2
      go_ret
      exact ⟨_, _, by rw [show k = n from HK.out]; rfl, by omega, HO.out, HB.out⟩
end Go.Proofs.Ytgkjgaijjihmgaa
