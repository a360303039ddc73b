/- Streams: what the program's and the reference's functions give. -/
import Derived.Test.YtmebpmaldcogbaaA4
namespace Go.Proofs.Ytmebpmaldcogbaa
open Go.RowKit Gf
set_option maxRecDepth 100000
set_option maxHeartbeats 400000
def smH (key nonce : Int) : Nat → Int
  | 0 => (key % 2147483629 + 2 * (nonce % 2147483629) + 1) % 2147483629
  | k + 1 => (48271 * smH key nonce k + key % 65521 + 1) % 2147483629
theorem smH_bd (key nonce : Int) (k : Nat) : 0 ≤ smH key nonce k ∧ smH key nonce k < 2147483629 := by
  cases k <;> simp only [smH] <;> omega
def smB (key nonce : Int) (n : Nat) : List UInt8 := (List.range n).map fun (i : Nat) => UInt8.ofNat (smH key nonce (i + 1) / 1024 % 256).toNat
theorem smB_length (key nonce : Int) (n : Nat) : (smB key nonce n).length = n := by simp [smB]
theorem smB_get (key nonce : Int) (n k : Nat) (h : k < (smB key nonce n).length) : ((smB key nonce n)[k].toNat : Int) = smH key nonce (k + 1) / 1024 % 256 := by
  simp only [smB, List.getElem_map, List.getElem_range, UInt8.toNat_ofNat']
  generalize smH key nonce (k + 1) = y
  omega
theorem stream_c (key nonce : Int) (n : Nat) (w : World) (h0 : 0 ≤ key) (h1 : key ≤ 1099511627776) (h2 : 0 ≤ nonce) (h3 : nonce ≤ 1099511627776) (hn : n ≤ 2000) :
    Calls Try.prog 127 #[.int .i64 key, .int .i64 nonce, .int .i64 n] w (RetRow 5 1 n (bC (smB key nonce n)) w) := by
  have hmk := run_make_row' (P := Try.prog) 25 5 (.int .u8 0) 1 Try.underlying25 info5 rfl .i64 .i64 n (by omega) (by omega)
  have H0 : Hid (smH key nonce 0 = (key % 2147483629 + 2 * (nonce % 2147483629) + 1) % 2147483629) := rfl
  go_enter Try.func127, Try.ntmps127
  go_wp2_with fail
  go_loopw [8, 9, 22] (fun h _ i wr => ∃ k : Nat, k ≤ n ∧ i = .int .i64 k ∧ h = .int .i64 (smH key nonce k) ∧ wr.ownsRow w.heap.size 5 1 (.slice (some ⟨w.heap.size, 0, none⟩) n n) n (bC (fill (smB key nonce n) k 0)) ∧ Below w.heap.size w wr) (fun _ _ i _ => n - (intOf i).toNat)
  case atStart => exact ⟨0, by omega, rfl, by rw [H0.out], made_row w 5 n (smB key nonce n) (.int .u8 0) (smB_length _ _ _) rfl (by omega), (Below.refl _ _).alloc (Nat.le_refl _) _⟩
  case round =>
    obtain ⟨k, hk, rfl, rfl, hown, hb⟩ := hrel
    by_cases hlt : k < n
    · have hl : k < (smB key nonce n).length := by rw [smB_length]; exact hlt
      obtain ⟨b0, b1⟩ := smH_bd key nonce k
      obtain ⟨d0, d1⟩ := smH_bd key nonce (k + 1)
      have hs : smH key nonce (k + 1) = (48271 * smH key nonce k + key % 65521 + 1) % 2147483629 := rfl
      have hc1 := hown.cellAt k (by omega)
      rw [bC_get (by rw [fill_length _ _ _ (by omega)]; omega)] at hc1
      have hf1 := hown.frozenAt k
      have HO := hide hown
      have HB := hide hb
      have HG := hide (smB_get key nonce n k hl)
      have HS := hide hs
      rw [hs] at d0 d1
      clear hown hb hs
      go_wp2
      refine ⟨⟨k + 1, by omega, by go_num, by rw [HS.out], ?_, HB.out.setCell (Nat.le_refl _) _⟩, by simp [intOf]; omega⟩
      have := (HO.out.stored k (.int .u8 ((smB key nonce n)[k].toNat : Int))).1
      rw [← bC_set, fill_set (smB key nonce n) k 0 hl, HG.out, HS.out] at this
      exact this
    · have HK : Hid (fill (smB key nonce n) k 0 = smB key nonce n) := by
        have := fill_all (smB key nonce n) 0
        rw [smB_length] at this
        rw [show k = n from by omega]
        exact this
      rw [HK.out] at hown
      go_wp2
      go_ret
      exact ⟨_, _, rfl, Nat.le_refl _, hown, hb⟩
def smOk (key nonce n : Int) : Bool := inB key 0 1099511627776 && inB nonce 0 1099511627776 && inB n 0 2000
def sm_ (key nonce n : Int) : List UInt8 := if smOk key nonce n then smB key nonce n.toNat else []
theorem Stream_i (key nonce n : Int) (w : World) : Calls Try.prog 57 #[.int .i64 key, .int .i64 nonce, .int .i64 n] w (RetRow 5 1 (sm_ key nonce n).length (bC (sm_ key nonce n)) w) := by
  cases hx : inB key 0 1099511627776 <;> cases hy : inB nonce 0 1099511627776 <;> cases hz : inB n 0 2000
  case true.true.true =>
    have e : sm_ key nonce n = smB key nonce n.toNat := by rw [sm_, smOk, hx, hy, hz]; rfl
    obtain ⟨a1, a2⟩ := inB_true.1 hx
    obtain ⟨b1, b2⟩ := inB_true.1 hy
    obtain ⟨c1, c2⟩ := inB_true.1 hz
    rw [e, smB_length]
    clear e
    obtain ⟨m, rfl⟩ := Int.eq_ofNat_of_zero_le c1
    rw [Int.toNat_natCast]
    go_enter Try.func57, Try.ntmps57
    go_wp2_with (first | (go_at_call 123; refine (isKey_c _ _).mono ?_; rintro e w' ⟨rfl, rfl⟩) | (go_at_call 104; refine (within_c _ _ _ _).mono ?_; rintro e w' ⟨rfl, rfl⟩) | (go_at_call 127; refine (stream_c _ _ _ _ (by omega) (by omega) (by omega) (by omega) (by omega)).mono ?_; rintro e w1 ⟨A, c, rfl, hc, hown, hb⟩))
    go_ret
    exact ⟨_, _, rfl, hc, hown, hb⟩
  all_goals
    have e : sm_ key nonce n = [] := by rw [sm_, smOk, hx, hy, hz]; rfl
    rw [e]
    clear e
    go_enter Try.func57, Try.ntmps57
    go_wp2_with (first | (go_at_call 123; refine (isKey_c _ _).mono ?_; rintro e w' ⟨rfl, rfl⟩) | (go_at_call 104; refine (within_c _ _ _ _).mono ?_; rintro e w' ⟨rfl, rfl⟩))
    go_ret
    exact ⟨_, _, rfl, Nat.le_refl _, World.ownsRow_nil _ _ _ _, Below.refl _ _⟩
theorem Stream_s (key nonce n : Int) (w : World) : Calls Try.prog 56 #[.int .i64 key, .int .i64 nonce, .int .i64 n] w (RetRow 5 1 (sm_ key nonce n).length (bC (sm_ key nonce n)) w) := by
  cases hx : inB key 0 1099511627776 <;> cases hy : inB nonce 0 1099511627776 <;> cases hz : inB n 0 2000
  case true.true.true =>
    have e : sm_ key nonce n = smB key nonce n.toNat := by rw [sm_, smOk, hx, hy, hz]; rfl
    obtain ⟨a1, a2⟩ := inB_true.1 hx
    obtain ⟨b1, b2⟩ := inB_true.1 hy
    obtain ⟨c1, c2⟩ := inB_true.1 hz
    rw [e, smB_length]
    clear e
    obtain ⟨m, rfl⟩ := Int.eq_ofNat_of_zero_le c1
    rw [Int.toNat_natCast]
    have H0 : Hid (smH key nonce 0 = (key % 2147483629 + 2 * (nonce % 2147483629) + 1) % 2147483629) := rfl
    go_enter Try.func56, Try.ntmps56
    go_wp2_with (first | (go_at_call 122; refine (l04Key_c _ _).mono ?_; rintro e w' ⟨rfl, rfl⟩) | (go_at_call 102; refine (l01In_c _ _ _ _).mono ?_; rintro e w' ⟨rfl, rfl⟩))
    go_quiet (fail)
    go_wp2_with fail
    go_loopw [7, 9, 10] (fun v h i wr => ∃ k A' c', k ≤ m ∧ i = .int .i64 ((k : Nat) : Int) ∧ h = .int .i64 (smH key nonce k) ∧ v = .slice A' k c' ∧ k ≤ c' ∧ wr.ownsRow w.heap.size 5 1 (.slice A' k c') k (bC ((smB key nonce m).take k)) ∧ Below w.heap.size w wr) (fun _ _ i _ => m - (intOf i).toNat)
    case atStart => exact ⟨0, _, _, by omega, rfl, by rw [H0.out], rfl, Nat.le_refl _, World.ownsRow_made w #[] 0 (Nat.le_refl _) (by omega) rfl, below_drewN ((Below.refl _ _).alloc (Nat.le_refl _) _) _⟩
    case round =>
      obtain ⟨k, A', c', hk, rfl, rfl, rfl, hkc, hown, hb⟩ := hrel
      by_cases hlt : k < m
      · have hl : k < (smB key nonce m).length := by rw [smB_length]; exact hlt
        obtain ⟨b0', b1'⟩ := smH_bd key nonce k
        have hs : smH key nonce (k + 1) = (48271 * smH key nonce k + key % 65521 + 1) % 2147483629 := rfl
        have h256 : (48271 * smH key nonce k + key % 65521 + 1) % 2147483629 / 1024 % 256 % 256 = (48271 * smH key nonce k + key % 65521 + 1) % 2147483629 / 1024 % 256 := by omega
        have hsz := hb.size
        have HB := hide hb
        have HO := hide hown
        have HG := hide (smB_get key nonce m k hl)
        have HS := hide hs
        clear hb hown hs
        go_wp2_with (at_builtin; refine wpList_push wr rfl (.tmp 49) (.tmp 54) 25 rfl w.heap.size 5 _ 1 1 Try.underlying25 info5 rfl (by omega) A' k c' _ [.int .u8 ((48271 * smH key nonce k + key % 65521 + 1) % 2147483629 / 1024 % 256)] rfl HO.out rfl rfl (by simp [Value.oneCell']) (by omega) (by omega) hsz ?_; intro A'' c'' w1 hc1 hown1 hg1 _)
        rw [← HS.out, ← HG.out, bC_succ hl] at hown1
        exact ⟨⟨k + 1, A'', c'', by omega, by go_num, by rw [HS.out], rfl, hc1, hown1, HB.out.trans (grown_below HO.out hg1 hsz)⟩, by simp [intOf]; omega⟩
      · have HE : Hid ((smB key nonce m).take k = smB key nonce m) := List.take_of_length_le (by rw [smB_length]; omega)
        have HK : Hid (k = m) := by show k = m; omega
        rw [HE.out, HK.out] at hown
        have HB := hide hb
        have HO := hide hown
        clear hb hown
        go_wp2
        go_ret
        exact ⟨_, _, by rw [show k = m from HK.out]; rfl, by omega, HO.out, HB.out⟩
  all_goals
    have e : sm_ key nonce n = [] := by rw [sm_, smOk, hx, hy, hz]; rfl
    rw [e]
    clear e
    go_enter Try.func56, Try.ntmps56
    go_wp2_with (first | (go_at_call 122; refine (l04Key_c _ _).mono ?_; rintro e w' ⟨rfl, rfl⟩) | (go_at_call 102; refine (l01In_c _ _ _ _).mono ?_; rintro e w' ⟨rfl, rfl⟩))
    go_ret
    exact ⟨_, _, rfl, Nat.le_refl _, World.ownsRow_nil _ _ _ _, (Below.refl _ _).alloc (Nat.le_refl _) _⟩
end Go.Proofs.Ytmebpmaldcogbaa
