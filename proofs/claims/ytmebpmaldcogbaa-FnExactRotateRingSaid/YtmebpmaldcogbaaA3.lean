/- What the functions that make slices by append give. -/
import Derived.Test.YtmebpmaldcogbaaA2
namespace Go.Proofs.Ytmebpmaldcogbaa
open Go.RowKit Gf
set_option maxRecDepth 100000
set_option maxHeartbeats 400000
theorem l01Bytes_c (A : Option Addr) (n c : Nat) (l : List UInt8) (w : World) (hr : Rd w w.heap.size 1 A n (bC l)) (hn : n ≤ 1099511627776) :
    Calls Try.prog 148 #[.slice A n c] w (RetRow 5 1 n (bC l) w) := by
  have hln := hide hr.bn
  go_enter Try.func148, Try.ntmps148
  go_wp2_with fail
  go_loopw [3, 4] (fun v i wr => ∃ k A' c', k ≤ n ∧ i = .int .i64 ((k : Nat) : Int) ∧ v = .slice A' k c' ∧ k ≤ c' ∧ wr.ownsRow w.heap.size 5 1 (.slice A' k c') k (bC (l.take k)) ∧ Below w.heap.size w wr) (fun _ i _ => n - (intOf i).toNat)
  case atStart => exact ⟨0, _, _, by omega, rfl, rfl, Nat.le_refl _, World.ownsRow_made w #[] 0 (Nat.le_refl _) (by omega) rfl, (Below.refl _ _).alloc (Nat.le_refl _) _⟩
  case round =>
    obtain ⟨k, A', c', hk, rfl, rfl, hkc, hown, hb⟩ := hrel
    by_cases hlt : k < n
    · have hr' := hr.below hb (Nat.le_refl _)
      obtain ⟨b, off, rfl, hblt, hl, hc⟩ := hr'.byte hlt
      have hsz := hb.size
      have HB := hide hb
      have HO := hide hown
      clear hr' hb hown
      go_wp2_with (at_builtin; refine wpList_push wr rfl (.tmp 12) (.tmp 17) 25 rfl w.heap.size 5 _ 1 1 Try.underlying25 info5 rfl (by omega) A' k c' _ [.int .u8 (l[k].toNat : Int)] rfl HO.out rfl rfl (by simp [Value.oneCell']) (by omega) (by omega) hsz ?_; intro A'' c'' w1 hc1 hown1 hg1 _)
      rw [bC_succ hl] at hown1
      exact ⟨⟨k + 1, A'', c'', by omega, by go_num, rfl, hc1, hown1, HB.out.trans (grown_below HO.out hg1 hsz)⟩, by simp [intOf]; omega⟩
    · have HE : Hid (l.take k = l) := by have := hln.out; exact List.take_of_length_le (by omega)
      have HK : Hid (k = n) := by show k = n; omega
      rw [HE.out, HK.out] at hown
      have HB := hide hb
      have HO := hide hown
      clear hb hown
      go_wp2
      go_ret
      exact ⟨_, _, by rw [show k = n from HK.out]; rfl, by omega, HO.out, HB.out⟩
theorem cpBytes_c (A : Option Addr) (n c : Nat) (l : List UInt8) (w : World) (hr : Rd w w.heap.size 1 A n (bC l)) (hn : n ≤ 1099511627776) :
    Calls Try.prog 41 #[.slice A n c] w (RetRow 5 1 n (bC l) w) := by
  have hln := hide hr.bn
  go_enter Try.func41, Try.ntmps41
  go_wp2_with fail
  go_loopw [3, 4] (fun v i wr => ∃ k A' c', k ≤ n ∧ i = .int .i64 ((k : Nat) : Int) ∧ v = .slice A' k c' ∧ k ≤ c' ∧ wr.ownsRow w.heap.size 5 1 (.slice A' k c') k (bC (l.take k)) ∧ Below w.heap.size w wr) (fun _ i _ => n - (intOf i).toNat)
  case atStart => exact ⟨0, _, _, by omega, rfl, rfl, Nat.le_refl _, World.ownsRow_made w #[] 0 (Nat.le_refl _) (by omega) rfl, (Below.refl _ _).alloc (Nat.le_refl _) _⟩
  case round =>
    obtain ⟨k, A', c', hk, rfl, rfl, hkc, hown, hb⟩ := hrel
    by_cases hlt : k < n
    · have hr' := hr.below hb (Nat.le_refl _)
      obtain ⟨b, off, rfl, hblt, hl, hc⟩ := hr'.byte hlt
      have hsz := hb.size
      have HB := hide hb
      have HO := hide hown
      clear hr' hb hown
      go_wp2_with (at_builtin; refine wpList_push wr rfl (.tmp 12) (.tmp 17) 25 rfl w.heap.size 5 _ 1 1 Try.underlying25 info5 rfl (by omega) A' k c' _ [.int .u8 (l[k].toNat : Int)] rfl HO.out rfl rfl (by simp [Value.oneCell']) (by omega) (by omega) hsz ?_; intro A'' c'' w1 hc1 hown1 hg1 _)
      rw [bC_succ hl] at hown1
      exact ⟨⟨k + 1, A'', c'', by omega, by go_num, rfl, hc1, hown1, HB.out.trans (grown_below HO.out hg1 hsz)⟩, by simp [intOf]; omega⟩
    · have HE : Hid (l.take k = l) := by have := hln.out; exact List.take_of_length_le (by omega)
      have HK : Hid (k = n) := by show k = n; omega
      rw [HE.out, HK.out] at hown
      have HB := hide hb
      have HO := hide hown
      clear hb hown
      go_wp2
      go_ret
      exact ⟨_, _, by rw [show k = n from HK.out]; rfl, by omega, HO.out, HB.out⟩
theorem l01Copy_c (A : Option Addr) (n c : Nat) (l : List Int) (w : World) (hr : Rd w w.heap.size 1 A n (iC l)) (hn : n ≤ 1099511627776) :
    Calls Try.prog 134 #[.slice A n c] w (RetRow 3 1 n (iC l) w) := by
  have hln := hide hr.in_
  go_enter Try.func134, Try.ntmps134
  go_wp2_with fail
  go_loopw [3, 4] (fun v i wr => ∃ k A' c', k ≤ n ∧ i = .int .i64 ((k : Nat) : Int) ∧ v = .slice A' k c' ∧ k ≤ c' ∧ wr.ownsRow w.heap.size 3 1 (.slice A' k c') k (iC (l.take k)) ∧ Below w.heap.size w wr) (fun _ i _ => n - (intOf i).toNat)
  case atStart => exact ⟨0, _, _, by omega, rfl, rfl, Nat.le_refl _, World.ownsRow_made w #[] 0 (Nat.le_refl _) (by omega) rfl, (Below.refl _ _).alloc (Nat.le_refl _) _⟩
  case round =>
    obtain ⟨k, A', c', hk, rfl, rfl, hkc, hown, hb⟩ := hrel
    by_cases hlt : k < n
    · have hr' := hr.below hb (Nat.le_refl _)
      obtain ⟨b, off, rfl, hblt, hl, hc⟩ := hr'.int_ hlt
      have hsz := hb.size
      have HB := hide hb
      have HO := hide hown
      clear hr' hb hown
      go_wp2_with (at_builtin; refine wpList_push wr rfl (.tmp 12) (.tmp 17) 53 rfl w.heap.size 3 _ 1 8 Try.underlying53 info3 rfl (by omega) A' k c' _ [.int .i64 l[k]] rfl HO.out rfl rfl (by simp [Value.oneCell']) (by omega) (by omega) hsz ?_; intro A'' c'' w1 hc1 hown1 hg1 _)
      rw [iC_succ hl] at hown1
      exact ⟨⟨k + 1, A'', c'', by omega, by go_num, rfl, hc1, hown1, HB.out.trans (grown_below HO.out hg1 hsz)⟩, by simp [intOf]; omega⟩
    · have HE : Hid (l.take k = l) := by have := hln.out; exact List.take_of_length_le (by omega)
      have HK : Hid (k = n) := by show k = n; omega
      rw [HE.out, HK.out] at hown
      have HB := hide hb
      have HO := hide hown
      clear hb hown
      go_wp2
      go_ret
      exact ⟨_, _, by rw [show k = n from HK.out]; rfl, by omega, HO.out, HB.out⟩
theorem l01Join_c (A A2 : Option Addr) (n c n2 c2 : Nat) (l l2 : List UInt8) (w : World) (hr : Rd w w.heap.size 1 A n (bC l)) (hr2 : Rd w w.heap.size 1 A2 n2 (bC l2)) (hn : n ≤ 1099511627776) (hn2 : n2 ≤ 1099511627776) :
    Calls Try.prog 132 #[.slice A n c, .slice A2 n2 c2] w (RetRow 5 1 (n + n2) (bC (l ++ l2)) w) := by
  have hln := hide hr2.bn
  go_enter Try.func132, Try.ntmps132
  go_wp2_with fail
  refine (l01Bytes_c _ _ _ l _ hr hn).mono ?_
  rintro e w0 ⟨A0, c0, rfl, hc0, hown0, hb0⟩
  go_wp2_with fail
  go_loopw [5, 6] (fun v i wr => ∃ k A' c', k ≤ n2 ∧ i = .int .i64 ((k : Nat) : Int) ∧ v = .slice A' (n + k) c' ∧ n + k ≤ c' ∧ wr.ownsRow w.heap.size 5 1 (.slice A' (n + k) c') (n + k) (bC l ++ bC (l2.take k)) ∧ Below w.heap.size w wr) (fun _ i _ => n2 - (intOf i).toNat)
  case atStart => exact ⟨0, _, _, by omega, rfl, rfl, hc0, by simpa [bC] using hown0, hb0⟩
  case round =>
    obtain ⟨k, A', c', hk, rfl, rfl, hkc, hown, hb⟩ := hrel
    by_cases hlt : k < n2
    · have hr' := hr2.below hb (Nat.le_refl _)
      obtain ⟨b, off, rfl, hblt, hl, hc⟩ := hr'.byte hlt
      have hsz := hb.size
      have HB := hide hb
      have HO := hide hown
      clear hr' hb hown hown0 hb0
      go_wp2_with (at_builtin; refine wpList_push wr rfl (.tmp 15) (.tmp 20) 25 rfl w.heap.size 5 _ 1 1 Try.underlying25 info5 rfl (by omega) A' (n + k) c' _ [.int .u8 (l2[k].toNat : Int)] rfl HO.out rfl rfl (by simp [Value.oneCell']) (by omega) (by omega) hsz ?_; intro A'' c'' w1 hc1 hown1 hg1 _)
      rw [List.append_assoc, bC_succ hl] at hown1
      exact ⟨⟨k + 1, A'', c'', by omega, by go_num, rfl, hc1, hown1, HB.out.trans (grown_below HO.out hg1 hsz)⟩, by simp [intOf]; omega⟩
    · have HE : Hid (l2.take k = l2) := by have := hln.out; exact List.take_of_length_le (by omega)
      have HK : Hid (k = n2) := by show k = n2; omega
      rw [HE.out, HK.out, ← bC_append] at hown
      have HB := hide hb
      have HO := hide hown
      clear hb hown hown0 hb0
      go_wp2
      go_ret
      exact ⟨_, _, by rw [show k = n2 from HK.out]; rfl, by omega, HO.out, HB.out⟩
end Go.Proofs.Ytmebpmaldcogbaa
