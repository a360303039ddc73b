/- What the numbers' functions of this program and of its reference give (bounds, products and inverses of bytes, noise): each contract says for which arguments. -/
import Derived.Test.YtgkjgaijjihmgaaProg
import Derived.Test.YtgkjgaijjihmgaaMem
import Derived.Test.YtgkjgaijjihmgaaGf
namespace Go.Proofs.Ytgkjgaijjihmgaa
open Go.RowKit Gf
set_option maxRecDepth 100000
set_option maxHeartbeats 400000
theorem and_one (y : Nat) (h : y < 256) : bits .and .i64 (y : Int) 1 = ((y % 2 : Nat) : Int) := by
  have := i64_and_nat y 1 (by omega) (by omega)
  rw [Nat.and_one_is_mod] at this
  exact this
theorem xor_283 (x : Nat) (h : x < 256) : bits .xor .i64 ((x : Int) * 2) 283 = ((x * 2 ^^^ 283 : Nat) : Int) := by
  have := i64_xor_nat (x * 2) 283 (by omega) (by omega)
  rw [Int.natCast_mul] at this
  exact this
theorem gmL_step {n x y p g : Nat} (h : p ^^^ gmL (n + 1) x y = g) : (p ^^^ (if y % 2 = 1 then x else 0)) ^^^ gmL n (xt x) (y / 2) = g := by
  rw [Nat.xor_assoc]; exact h
theorem gMul_c (a b : Int) (w : World) (ha : 0 ≤ a) (ha' : a < 256) (hb : 0 ≤ b) (hb' : b < 256) :
    Calls Try.prog 43 #[.int .i64 a, .int .i64 b] w (Pure (.int .i64 (gm a.toNat b.toNat)) w) := by
  obtain ⟨x0, rfl⟩ := Int.eq_ofNat_of_zero_le ha
  obtain ⟨y0, rfl⟩ := Int.eq_ofNat_of_zero_le hb
  rw [Int.toNat_natCast, Int.toNat_natCast]
  have hx0 : x0 < 256 := by omega
  have hy0 : y0 < 256 := by omega
  clear ha ha' hb hb'
  go_enter Try.func43, Try.ntmps43
  go_wp2_with fail
  go_loop [0, 1, 5] (fun x y p => ∃ x' y' p' n : Nat, x = .int .i64 x' ∧ y = .int .i64 y' ∧ p = .int .i64 p' ∧ x' < 256 ∧ y' < 256 ∧ p' < 256 ∧ y' < 2 ^ n ∧ p' ^^^ gmL n x' y' = gm x0 y0) (fun _ y _ => (intOf y).toNat)
  case atStart => exact ⟨x0, y0, 0, 8, rfl, rfl, rfl, by omega, by omega, by omega, by omega, by rw [Nat.zero_xor]; rfl⟩
  case round =>
    obtain ⟨x, y, p, n, rfl, rfl, rfl, hx, hy, hp, hyn, hE⟩ := hrel
    by_cases h0 : y = 0
    · have HE : Hid (p = gm x0 y0) := by rw [h0, gmL_zero, Nat.xor_zero] at hE; exact hE
      have hz : ¬ (0 : Int) < y := by omega
      clear hE hyn h0
      go_wp2
      go_ret
      exact ⟨ret_int (by rw [HE.out]), rfl⟩
    · obtain ⟨m, rfl⟩ : ∃ m, n = m + 1 := ⟨n - 1, by
        rcases n with _ | n
        · simp at hyn; omega
        · omega⟩
      have HE := hide (gmL_step hE)
      have HN : Hid (y / 2 < 2 ^ m) := by rw [Nat.pow_succ] at hyn; show y / 2 < 2 ^ m; omega
      have hpos : (0 : Int) < y := by omega
      have hxt := xt_lt hx
      clear hE hyn h0
      have hA := and_one y hy
      have hX := xor_283 x hx
      have hP := i64_xor_nat p x (by omega) (by omega)
      have hpx := xor_lt hp hx
      rcases Nat.mod_two_eq_zero_or_one y with h1 | h1 <;> rw [h1] at hA <;> rw [h1] at HE <;> by_cases h2 : 255 < x * 2
      all_goals
        have HX := hide hX
        have HP := hide hP
        have HH1 := hide h1
        clear hX hP h1
        go_wp2
        go_round
        case measure => simp [intOf]; omega
        case rel =>
          refine ⟨xt x, y / 2, p ^^^ (if y % 2 = 1 then x else 0), m, ?_, by go_num, ?_, hxt, by omega, ?_, HN.out, ?_⟩
          · unfold xt; first | rw [if_pos h2, HX.out] | (rw [if_neg h2]; go_num)
          · first | rw [HH1.out, if_neg (by omega), Nat.xor_zero] | rw [HH1.out, if_pos rfl, HP.out]
          · have h1 := HH1.out; first | rw [if_neg (by omega), Nat.xor_zero]; exact hp | rw [if_pos h1]; exact hpx
          · rw [HH1.out]; exact HE.out
theorem within_c (a b c : Int) (w : World) :
    Calls Try.prog 41 #[.int .i64 a, .int .i64 b, .int .i64 c] w (Pure (.bool (inB a b c)) w) := by
  by_cases h1 : b ≤ a <;> by_cases h2 : a ≤ c
  all_goals
    have e : Hid (inB a b c = (decide (b ≤ a) && decide (a ≤ c))) := rfl
    go_enter Try.func41, Try.ntmps41
    go_wp2
    go_ret
    exact ⟨by rw [e.out]; simp [*], rfl⟩
theorem gInv_c (a : Int) (w : World) (ha : 0 ≤ a) (ha' : a < 256) :
    Calls Try.prog 71 #[.int .i64 a] w (Pure (.int .i64 (gi a.toNat)) w) := by
  obtain ⟨x0, rfl⟩ := Int.eq_ofNat_of_zero_le ha
  rw [Int.toNat_natCast]
  have hx0 : x0 < 256 := by omega
  clear ha ha'
  go_enter Try.func71, Try.ntmps71
  go_wp2_with fail
  go_loop [3, 4] (fun p i => ∃ k : Nat, k ≤ 254 ∧ p = .int .i64 (pw x0 k) ∧ i = .int .i64 k) (fun _ i => 254 - (intOf i).toNat)
  case atStart => exact ⟨0, by omega, rfl, rfl⟩
  case round =>
    obtain ⟨k, hk, rfl, rfl⟩ := hrel
    have hp := pw_lt (a := x0) k
    by_cases hlt : k < 254
    · go_wp2_with (go_at_call 43; refine (gMul_c _ _ _ (by omega) (by omega) (by omega) (by omega)).mono ?_; rintro e w' ⟨rfl, rfl⟩)
      go_round
      case rel => exact ⟨k + 1, by omega, rfl, by go_num⟩
      case measure => simp [intOf]; omega
    · have hk' : Hid (k = 254) := by show k = 254; omega
      go_wp2
      go_ret
      exact ⟨ret_int (by rw [hk'.out]; rfl), rfl⟩
theorem l01In_c (a b c : Int) (w : World) :
    Calls Try.prog 38 #[.int .i64 a, .int .i64 b, .int .i64 c] w (Pure (.bool (inB a b c)) w) := by
  by_cases h1 : b ≤ a <;> by_cases h2 : a ≤ c
  all_goals
    have e : Hid (inB a b c = (decide (b ≤ a) && decide (a ≤ c))) := rfl
    go_enter Try.func38, Try.ntmps38
    go_wp2
    go_ret
    exact ⟨by rw [e.out]; simp [*], rfl⟩
theorem isSeed_c (a : Int) (w : World) :
    Calls Try.prog 42 #[.int .i64 a] w (Pure (.bool (inB a 0 2147483647)) w) := by
  go_enter Try.func42, Try.ntmps42
  go_wp2_with (go_at_call 41; refine (within_c _ _ _ _).mono ?_; rintro e w' ⟨rfl, rfl⟩)
  go_ret
  exact ⟨rfl, rfl⟩
theorem l03Byte_c (a : Int) (w : World) :
    Calls Try.prog 69 #[.int .i64 a] w (Pure (.bool (inB a 0 255)) w) := by
  go_enter Try.func69, Try.ntmps69
  go_wp2_with (go_at_call 38; refine (l01In_c _ _ _ _).mono ?_; rintro e w' ⟨rfl, rfl⟩)
  go_ret
  exact ⟨rfl, rfl⟩
/-- the program's product, any two numbers -/
def gmul (a b : Int) : Int := if 0 ≤ a ∧ a < 256 ∧ 0 ≤ b ∧ b < 256 then (gm a.toNat b.toNat : Int) else -1
theorem mod_t {y k : Nat} (h : (((y : Int) / 2 ^ k).tmod 2 == 1) = true) : (y / 2 ^ k) % 2 = 1 := by
  have h' := beq_iff_eq.1 h
  rw [show ((y : Int) / 2 ^ k) = ((y / 2 ^ k : Nat) : Int) from by rw [Int.natCast_ediv, Int.natCast_pow]; rfl, Int.tmod_eq_emod_of_nonneg (Int.natCast_nonneg _)] at h'
  omega
theorem mod_f {y k : Nat} (h : (((y : Int) / 2 ^ k).tmod 2 == 1) = false) : ¬ (y / 2 ^ k) % 2 = 1 := by
  intro h1
  have h' := beq_eq_false_iff_ne.1 h
  apply h'
  rw [show ((y : Int) / 2 ^ k) = ((y / 2 ^ k : Nat) : Int) from by rw [Int.natCast_ediv, Int.natCast_pow]; rfl, Int.tmod_eq_emod_of_nonneg (Int.natCast_nonneg _)]
  omega
theorem horner_step {n x y k g : Nat} (hx : x < 256) (h : gmL n x (y / 2 ^ (k + 1)) = g) : gmL (n + 1) x (y / 2 ^ k) = xt g ^^^ (if (y / 2 ^ k) % 2 = 1 then x else 0) := by
  rw [gmL_succ' n _ hx, Nat.div_div_eq_div_mul, ← Nat.pow_succ, h]
theorem xt_pos {g : Nat} (h : 256 ≤ (g : Int) * 2) : xt g = g * 2 ^^^ 283 := if_pos (by omega)
theorem xt_neg {g : Nat} (h : (g : Int) * 2 < 256) : xt g = g * 2 := if_neg (by omega)
theorem xor_xor {p x : Nat} (hp : p < 256) (hx : x < 256) : bits .xor .i64 (bits .xor .i64 ((p : Int) * 2) 283) x = ((p * 2 ^^^ 283) ^^^ x : Nat) := by
  have h : p * 2 ^^^ 283 < 2 ^ 9 := Nat.xor_lt_two_pow (by omega) (by omega)
  rw [xor_283 p hp]; exact i64_xor_nat _ _ (by omega) (by omega)
theorem xor_two {p x : Nat} (hp : p < 256) (hx : x < 256) : bits .xor .i64 ((p : Int) * 2) x = ((p * 2) ^^^ x : Nat) := by
  have := i64_xor_nat (p * 2) x (by omega) (by omega)
  rw [Int.natCast_mul] at this; exact this
theorem GMul_s (a b : Int) (w : World) :
    Calls Try.prog 39 #[.int .i64 a, .int .i64 b] w (Pure (.int .i64 (gmul a b)) w) := by
  by_cases h : (0 ≤ a ∧ a ≤ 255) ∧ (0 ≤ b ∧ b ≤ 255)
  · have e : Hid (gmul a b = (gm a.toNat b.toNat : Int)) := if_pos (by omega)
    have e1 := inB_true.2 h.1
    have e2 := inB_true.2 h.2
    obtain ⟨⟨h1a, h1b⟩, h2a, h2b⟩ := h
    obtain ⟨x, rfl⟩ := Int.eq_ofNat_of_zero_le h1a
    obtain ⟨y, rfl⟩ := Int.eq_ofNat_of_zero_le h2a
    rw [Int.toNat_natCast, Int.toNat_natCast] at e
    have hx : x < 256 := by omega
    have hy : y < 256 := by omega
    go_enter Try.func39, Try.ntmps39
    go_wp2_with (first | (go_at_call 69; refine (l03Byte_c _ _).mono ?_; rintro e w' ⟨rfl, rfl⟩))
    go_loop [5, 6] (fun p i => ∃ k : Nat, k ≤ 8 ∧ i = .int .i64 ((k : Int) - 1) ∧ p = .int .i64 (gmL (8 - k) x (y / 2 ^ k))) (fun _ i => ((intOf i) + 1).toNat)
    case atStart => exact ⟨8, by omega, rfl, int_eq (by simp [gmL])⟩
    case round =>
      obtain ⟨k, hk, hi, hp⟩ := hrel
      subst hp
      rcases k with _ | k
      · have hi' : u6 = .int .i64 (-1) := hi
        subst hi'
        clear hi
        go_wp2
        go_ret
        exact ⟨ret_int (by rw [e.out]; simp [gm]), rfl⟩
      · rw [show ((k + 1 : Nat) : Int) - 1 = (k : Int) from by omega] at hi
        subst hi
        have hlt := gmL_lt (8 - (k + 1)) (y / 2 ^ (k + 1)) hx
        generalize hg : gmL (8 - (k + 1)) x (y / 2 ^ (k + 1)) = g at hlt ⊢
        have HG := hide hg
        clear hg
        obtain ⟨n, hn⟩ : ∃ n, 8 - (k + 1) = n := ⟨_, rfl⟩
        have HS : Hid (gmL (8 - k) x (y / 2 ^ k) = xt g ^^^ (if (y / 2 ^ k) % 2 = 1 then x else 0)) := by
          have := HG.out
          rw [hn] at this
          rw [show 8 - k = n + 1 from by omega]
          exact horner_step hx this
        clear hn
        go_wp2
        all_goals
          refine ⟨⟨k, by omega, rfl, int_eq ?_⟩, by simp [intOf]⟩
          rw [HS.out]
          first
            | rw [xt_pos (by assumption), if_pos (mod_t (by assumption)), xor_xor hlt hx]
            | rw [xt_pos (by assumption), if_neg (mod_f (by assumption)), Nat.xor_zero, xor_283 g hlt]
            | rw [xt_neg (by assumption), if_pos (mod_t (by assumption)), xor_two hlt hx]
            | (rw [xt_neg (by assumption), if_neg (mod_f (by assumption)), Nat.xor_zero]; omega)
  · have e : Hid (gmul a b = -1) := if_neg (by omega)
    cases e1 : inB a 0 255 <;> cases e2 : inB b 0 255
    case true.true => exact absurd ⟨inB_true.1 e1, inB_true.1 e2⟩ h
    all_goals
      clear h
      go_enter Try.func39, Try.ntmps39
      go_wp2_with (go_at_call 69; refine (l03Byte_c _ _).mono ?_; rintro e w' ⟨rfl, rfl⟩)
      go_ret
      exact ⟨ret_int (by rw [e.out]), rfl⟩

def ginv (a : Int) : Int := if 1 ≤ a ∧ a ≤ 255 then (gi a.toNat : Int) else -1
theorem gmul_one {a k : Int} (hk : 1 ≤ k) (hk' : k ≤ 255) : gmul a k = 1 ↔ (1 ≤ a ∧ a ≤ 255) ∧ k = gi a.toNat := by
  constructor
  · intro h
    unfold gmul at h
    split at h
    · rename_i hc
      have h' : gm a.toNat k.toNat = 1 := by omega
      have ha : a.toNat ≠ 0 := by intro e; rw [e, zero_gm] at h'; omega
      have := gi_uniq ha (by omega) (by omega) h'
      omega
    · omega
  · rintro ⟨⟨h1, h2⟩, rfl⟩
    have := gi_lt (a := a.toNat)
    rw [gmul, if_pos (by omega), Int.toNat_natCast, gm_gi (by omega) (by omega)]
    rfl
theorem GInv_s (a : Int) (w : World) : Calls Try.prog 72 #[.int .i64 a] w (Pure (.int .i64 (ginv a)) w) := by
  go_enter Try.func72, Try.ntmps72
  go_wp2_with fail
  go_loop [3] (fun b => ∃ k : Nat, 1 ≤ k ∧ k ≤ 256 ∧ b = .int .i64 k ∧ ∀ j : Int, 1 ≤ j → j < k → gmul a j ≠ 1) (fun b => 256 - (intOf b).toNat)
  case atStart => exact ⟨1, by omega, by omega, rfl, fun j h1 h2 => by omega⟩
  case round =>
    obtain ⟨k, hk1, hk, rfl, hno⟩ := hrel
    have HN := hide hno
    clear hno
    by_cases hlt : k < 256
    · by_cases h1 : gmul a k = 1
      · have e : Hid (ginv a = k) := by
          obtain ⟨h2, h3⟩ := (gmul_one (by omega) (by omega)).1 h1
          show ginv a = k
          rw [ginv, if_pos h2, h3]
        have ht : (gmul a k == 1) = true := beq_iff_eq.2 h1
        clear h1
        go_wp2_with (first | (go_at_call 39; refine (GMul_s _ _ _).mono ?_; rintro e w' ⟨rfl, rfl⟩))
        go_ret
        exact ⟨ret_int e.out.symm, rfl⟩
      · have ht : (gmul a k == 1) = false := beq_eq_false_iff_ne.2 h1
        have HN' : Hid (∀ j : Int, 1 ≤ j → j < ((k + 1 : Nat) : Int) → gmul a j ≠ 1) := fun j j1 j2 => by
          by_cases hj : j = k
          · rw [hj]; exact h1
          · exact HN.out j j1 (by omega)
        clear h1
        go_wp2_with (first | (go_at_call 39; refine (GMul_s _ _ _).mono ?_; rintro e w' ⟨rfl, rfl⟩))
        go_round
        case rel => exact ⟨k + 1, by omega, by omega, by go_num, HN'.out⟩
        case measure => simp [intOf]; omega
    · have e : Hid (ginv a = -1) := by
        show ginv a = -1
        unfold ginv
        split
        · rename_i h
          have hg := gi_lt (a := a.toNat)
          have h0 := gi_ne (a := a.toNat) (by omega) (by omega)
          exact absurd ((gmul_one (by omega) (by omega)).2 ⟨h, rfl⟩) (HN.out (gi a.toNat) (by omega) (by omega))
        · rfl
      go_wp2
      go_ret
      exact ⟨ret_int e.out.symm, rfl⟩

def nz (s i j : Int) : Int := ((s * 1103515245 + 12345 + 7919 * i + 104729 * j) % 2147483648 * 1103515245 + 12345) % 2147483648 / 65536 % 256
theorem nz_bd (s i j : Int) : 0 ≤ nz s i j ∧ nz s i j < 256 := by unfold nz; omega
theorem noise_c (s i j : Int) (w : World) (hs : 0 ≤ s) (hs' : s ≤ 2147483647) (hi : 0 ≤ i) (hi' : i ≤ 1000) (hj : 0 ≤ j) (hj' : j ≤ 1000) :
    Calls Try.prog 44 #[.int .i64 s, .int .i64 i, .int .i64 j] w (Pure (.int .i64 (nz s i j)) w) := by
  have e : Hid (nz s i j = ((s * 1103515245 + 12345 + 7919 * i + 104729 * j) % 2147483648 * 1103515245 + 12345) % 2147483648 / 65536 % 256) := rfl
  go_enter Try.func44, Try.ntmps44
  go_wp2
  go_ret
  exact ⟨ret_int e.out.symm, rfl⟩
def nois (s i j : Int) : Int := if inB s 0 2147483647 && inB i 0 1000 && inB j 0 1000 then nz s i j else -1
theorem Noise_s (s i j : Int) (w : World) : Calls Try.prog 40 #[.int .i64 s, .int .i64 i, .int .i64 j] w (Pure (.int .i64 (nois s i j)) w) := by
  have e : Hid (nois s i j = if inB s 0 2147483647 && inB i 0 1000 && inB j 0 1000 then nz s i j else -1) := rfl
  have e2 : Hid (nz s i j = ((s * 1103515245 + 12345 + 7919 * i + 104729 * j) % 2147483648 * 1103515245 + 12345) % 2147483648 / 65536 % 256) := rfl
  cases h1 : inB s 0 2147483647 <;> cases h2 : inB i 0 1000 <;> cases h3 : inB j 0 1000
  case true.true.true =>
    obtain ⟨a1, a2⟩ := inB_true.1 h1
    obtain ⟨b1, b2⟩ := inB_true.1 h2
    obtain ⟨c1, c2⟩ := inB_true.1 h3
    rw [h1, h2, h3] at e
    go_enter Try.func40, Try.ntmps40
    go_wp2_with (first | (go_at_call 38; refine (l01In_c _ _ _ _).mono ?_; rintro e w' ⟨rfl, rfl⟩))
    go_ret
    exact ⟨ret_int (e2.out.symm.trans e.out.symm), rfl⟩
  all_goals
    rw [h1, h2, h3] at e
    go_enter Try.func40, Try.ntmps40
    go_wp2_with (first | (go_at_call 38; refine (l01In_c _ _ _ _).mono ?_; rintro e w' ⟨rfl, rfl⟩))
    go_ret
    exact ⟨ret_int e.out.symm, rfl⟩
end Go.Proofs.Ytgkjgaijjihmgaa
