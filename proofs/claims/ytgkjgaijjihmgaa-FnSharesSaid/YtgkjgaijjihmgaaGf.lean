namespace Go.Proofs.Ytgkjgaijjihmgaa.Gf
def xt (x : Nat) : Nat := if 255 < x * 2 then (x * 2) ^^^ 283 else x * 2
def gmL : Nat → Nat → Nat → Nat
  | 0, _, _ => 0
  | n + 1, x, y => (if y % 2 = 1 then x else 0) ^^^ gmL n (xt x) (y / 2)
def gm (x y : Nat) : Nat := gmL 8 x y

theorem xor_lt {a b : Nat} (ha : a < 256) (hb : b < 256) : a ^^^ b < 256 := Nat.xor_lt_two_pow (n := 8) ha hb
theorem xt_lt_all : ∀ x : Fin 256, xt x < 256 := by decide +kernel
theorem xt_lt {x : Nat} (h : x < 256) : xt x < 256 := xt_lt_all ⟨x, h⟩
theorem hi_all : ∀ x : Fin 256, decide (255 < x.val * 2) = x.val.testBit 7 := by decide +kernel
theorem hi_of {x : Nat} (h : x < 256) : decide (255 < x * 2) = x.testBit 7 := hi_all ⟨x, h⟩
theorem two_xor (x y : Nat) : (x ^^^ y) * 2 = x * 2 ^^^ y * 2 := by
  have := Nat.shiftLeft_xor_distrib (a := x) (b := y) (i := 1)
  simpa [Nat.shiftLeft_eq] using this
theorem xor_cancel (a b : Nat) : a ^^^ (a ^^^ b) = b := by rw [← Nat.xor_assoc, Nat.xor_self, Nat.zero_xor]
theorem xt_eq {x : Nat} (h : x < 256) : xt x = x * 2 ^^^ (if x.testBit 7 then 283 else 0) := by
  have := hi_of h
  unfold xt
  by_cases hc : 255 < x * 2
  · have h7 : x.testBit 7 = true := by rw [← this]; exact decide_eq_true hc
    rw [if_pos hc, if_pos h7]
  · have h7 : x.testBit 7 = false := by rw [← this]; exact decide_eq_false hc
    rw [if_neg hc, h7]; simp
theorem xt_xor {x y : Nat} (hx : x < 256) (hy : y < 256) : xt (x ^^^ y) = xt x ^^^ xt y := by
  rw [xt_eq hx, xt_eq hy, xt_eq (xor_lt hx hy), two_xor, Nat.testBit_xor]
  cases x.testBit 7 <;> cases y.testBit 7 <;> simp [Nat.xor_assoc]
  · rw [Nat.xor_comm 283]
  · rw [Nat.xor_comm 283 (y * 2 ^^^ 283), Nat.xor_assoc]; simp
theorem xt_zero : xt 0 = 0 := rfl

theorem gmL_lt (n : Nat) : ∀ {x : Nat} (y : Nat), x < 256 → gmL n x y < 256 := by
  induction n with
  | zero => intro x y _; exact Nat.zero_lt_succ _
  | succ n ih =>
    intro x y hx
    unfold gmL
    refine xor_lt ?_ (ih _ (xt_lt hx))
    split <;> omega
theorem gm_lt {x : Nat} (y : Nat) (hx : x < 256) : gm x y < 256 := gmL_lt 8 y hx
theorem gmL_zero (n : Nat) : ∀ x, gmL n x 0 = 0 := by
  induction n with
  | zero => intro x; rfl
  | succ n ih => intro x; unfold gmL; simp [ih]
theorem gmL_zero_left (n : Nat) : ∀ y, gmL n 0 y = 0 := by
  induction n with
  | zero => intro x; rfl
  | succ n ih => intro x; unfold gmL; simp [ih, xt_zero]
/-- linear on the left -/
theorem gmL_xor_left (n : Nat) : ∀ {x x' : Nat} (y : Nat), x < 256 → x' < 256 → gmL n (x ^^^ x') y = gmL n x y ^^^ gmL n x' y := by
  induction n with
  | zero => intro x x' y _ _; simp [gmL]
  | succ n ih =>
    intro x x' y hx hx'
    simp only [gmL]
    rw [xt_xor hx hx', ih _ (xt_lt hx) (xt_lt hx')]
    split
    · simp only [Nat.xor_assoc]; rw [← Nat.xor_assoc x' (gmL n (xt x) (y / 2)), Nat.xor_comm x' (gmL n (xt x) (y / 2)), Nat.xor_assoc]
    · simp
theorem xor_mod_two (a b : Nat) : (a ^^^ b) % 2 = (a % 2 + b % 2) % 2 := by
  have h : ((a ^^^ b) % 2 = 1) ↔ ¬ (a % 2 = 1 ↔ b % 2 = 1) := Nat.xor_mod_two_eq_one
  have := Nat.mod_two_eq_zero_or_one a; have := Nat.mod_two_eq_zero_or_one b; have := Nat.mod_two_eq_zero_or_one (a ^^^ b); omega
theorem xor_div_two (a b : Nat) : (a ^^^ b) / 2 = (a / 2) ^^^ (b / 2) := Nat.xor_div_two
theorem gmL_xor_right (n : Nat) : ∀ {x : Nat} (y y' : Nat), gmL n x (y ^^^ y') = gmL n x y ^^^ gmL n x y' := by
  induction n with
  | zero => intro x y y'; simp [gmL]
  | succ n ih =>
    intro x y y'
    simp only [gmL]
    rw [xor_div_two, ih, xor_mod_two]
    rcases Nat.mod_two_eq_zero_or_one y with h | h <;> rcases Nat.mod_two_eq_zero_or_one y' with h' | h' <;> simp [h, h']
    · simp only [← Nat.xor_assoc]; rw [Nat.xor_comm x]
    · rw [Nat.xor_assoc]
    · simp only [Nat.xor_assoc]; rw [← Nat.xor_assoc _ x, Nat.xor_comm _ x, Nat.xor_assoc, xor_cancel]
theorem gmL_xt (n : Nat) : ∀ {x : Nat} (y : Nat), x < 256 → gmL n (xt x) y = xt (gmL n x y) := by
  induction n with
  | zero => intro x y _; rfl
  | succ n ih =>
    intro x y hx
    simp only [gmL]
    rw [ih _ (xt_lt hx), xt_xor (by split <;> omega) (gmL_lt n _ (xt_lt hx))]
    split <;> simp [xt_zero]
/-- the law of one step of the other way round -/
theorem gmL_succ' (n : Nat) {x : Nat} (y : Nat) (hx : x < 256) : gmL (n + 1) x y = xt (gmL n x (y / 2)) ^^^ (if y % 2 = 1 then x else 0) := by
  rw [← gmL_xt _ _ hx, Nat.xor_comm]; rfl

theorem gm_xor_left {x x' : Nat} (y : Nat) (hx : x < 256) (hx' : x' < 256) : gm (x ^^^ x') y = gm x y ^^^ gm x' y := gmL_xor_left 8 y hx hx'
theorem gm_xor_right {x : Nat} (y y' : Nat) : gm x (y ^^^ y') = gm x y ^^^ gm x y' := gmL_xor_right 8 y y'
theorem gm_zero (x : Nat) : gm x 0 = 0 := gmL_zero 8 x
theorem zero_gm (y : Nat) : gm 0 y = 0 := gmL_zero_left 8 y

theorem top_all : ∀ n : Fin 8, ∀ x : Fin 256, 2 ^ n.val ≤ x.val → x.val < 2 ^ (n.val + 1) → x.val ^^^ 2 ^ n.val < 2 ^ n.val := by decide +kernel
theorem additive_eq (f g : Nat → Nat) (hf : ∀ x y, x < 256 → y < 256 → f (x ^^^ y) = f x ^^^ f y) (hg : ∀ x y, x < 256 → y < 256 → g (x ^^^ y) = g x ^^^ g y)
    (h : ∀ n, n < 8 → f (2 ^ n) = g (2 ^ n)) : ∀ x, x < 256 → f x = g x := by
  have z : ∀ k : Nat → Nat, (∀ x y, x < 256 → y < 256 → k (x ^^^ y) = k x ^^^ k y) → k 0 = 0 := fun k hk => by
    have := hk 0 0 (by omega) (by omega); rw [Nat.xor_self, Nat.xor_self] at this; exact this
  have key : ∀ n, n ≤ 8 → ∀ x, x < 2 ^ n → f x = g x := by
    intro n
    induction n with
    | zero => intro _ x hx; have : x = 0 := by simpa using hx
              subst this; rw [z f hf, z g hg]
    | succ n ih =>
      intro hn x hx
      by_cases hlt : x < 2 ^ n
      · exact ih (by omega) x hlt
      · have h256 : 2 ^ (n + 1) ≤ 256 := Nat.pow_le_pow_right (n := 2) (by omega) (show n + 1 ≤ 8 from hn)
        have hr := top_all ⟨n, by omega⟩ ⟨x, by omega⟩ (by simpa using hlt) hx
        simp only at hr
        have e : x = 2 ^ n ^^^ (x ^^^ 2 ^ n) := by rw [Nat.xor_comm x, xor_cancel]
        have h2 : 2 ^ n < 256 := by have : 2 ^ n < 2 ^ (n + 1) := Nat.pow_lt_pow_right (by omega) (by omega)
                                    omega
        rw [e, hf _ _ h2 (by omega), hg _ _ h2 (by omega), h n (by omega), ih (by omega) _ hr]
  exact fun x hx => key 8 (Nat.le_refl _) x hx

theorem comm_base : ∀ i : Fin 8, ∀ j : Fin 8, gm (2 ^ i.val) (2 ^ j.val) = gm (2 ^ j.val) (2 ^ i.val) := by decide +kernel
theorem p_lt {n : Nat} (h : n < 8) : 2 ^ n < 256 := by
  have := Nat.pow_lt_pow_right (a := 2) (by omega) h; omega
theorem gm_comm {x y : Nat} (hx : x < 256) (hy : y < 256) : gm x y = gm y x := by
  refine additive_eq (fun x => gm x y) (fun x => gm y x) (fun a b ha hb => gm_xor_left y ha hb) (fun a b _ _ => gm_xor_right a b) (fun n hn => ?_) x hx
  exact additive_eq (fun y => gm (2 ^ n) y) (fun y => gm y (2 ^ n)) (fun a b _ _ => gm_xor_right a b) (fun a b ha hb => gm_xor_left _ ha hb)
    (fun m hm => comm_base ⟨n, hn⟩ ⟨m, hm⟩) y hy
theorem assoc_base : ∀ i : Fin 8, ∀ j : Fin 8, ∀ k : Fin 8, gm (gm (2 ^ i.val) (2 ^ j.val)) (2 ^ k.val) = gm (2 ^ i.val) (gm (2 ^ j.val) (2 ^ k.val)) := by decide +kernel
theorem gm_assoc {x y z : Nat} (hx : x < 256) (hy : y < 256) (hz : z < 256) : gm (gm x y) z = gm x (gm y z) := by
  refine additive_eq (fun x => gm (gm x y) z) (fun x => gm x (gm y z)) (fun a b ha hb => ?_) (fun a b ha hb => gm_xor_left _ ha hb) (fun i hi => ?_) x hx
  · show gm (gm (a ^^^ b) y) z = _
    rw [gm_xor_left y ha hb, gm_xor_left z (gm_lt y ha) (gm_lt y hb)]
  refine additive_eq (fun y => gm (gm (2 ^ i) y) z) (fun y => gm (2 ^ i) (gm y z)) (fun a b ha hb => ?_) (fun a b ha hb => ?_) (fun j hj => ?_) y hy
  · show gm (gm (2 ^ i) (a ^^^ b)) z = _
    rw [gm_xor_right, gm_xor_left z (gm_lt _ (p_lt hi)) (gm_lt _ (p_lt hi))]
  · show gm (2 ^ i) (gm (a ^^^ b) z) = _
    rw [gm_xor_left z ha hb, gm_xor_right]
  refine additive_eq (fun z => gm (gm (2 ^ i) (2 ^ j)) z) (fun z => gm (2 ^ i) (gm (2 ^ j) z)) (fun a b _ _ => gm_xor_right a b) (fun a b _ _ => ?_) (fun k hk => assoc_base ⟨i, hi⟩ ⟨j, hj⟩ ⟨k, hk⟩) z hz
  show gm (2 ^ i) (gm (2 ^ j) (a ^^^ b)) = _
  rw [gm_xor_right, gm_xor_right]
theorem one_all : ∀ x : Fin 256, gm x.val 1 = x.val := by decide +kernel
theorem gm_one {x : Nat} (hx : x < 256) : gm x 1 = x := one_all ⟨x, hx⟩
theorem one_gm {x : Nat} (hx : x < 256) : gm 1 x = x := by rw [gm_comm (by omega) hx, gm_one hx]

def pw (a : Nat) : Nat → Nat
  | 0 => 1
  | n + 1 => gm (pw a n) a
theorem pw_lt {a : Nat} (n : Nat) : pw a n < 256 := by
  induction n with
  | zero => exact (by decide : 1 < 256)
  | succ n ih => exact gm_lt _ ih
theorem pw_add {a : Nat} (ha : a < 256) (m n : Nat) : pw a (m + n) = gm (pw a m) (pw a n) := by
  induction n with
  | zero => exact (gm_one (pw_lt m)).symm
  | succ n ih =>
    show gm (pw a (m + n)) a = gm (pw a m) (gm (pw a n) a)
    rw [ih, gm_assoc (pw_lt m) (pw_lt n) ha]
def gi (a : Nat) : Nat := pw a 254
theorem gi_lt {a : Nat} : gi a < 256 := pw_lt _
def sq (x : Nat) : Nat := gm x x
def chain (a : Nat) : Nat :=
  let a2 := sq a; let a4 := sq a2; let a8 := sq a4; let a16 := sq a8; let a32 := sq a16; let a64 := sq a32; let a128 := sq a64
  gm a2 (gm a4 (gm a8 (gm a16 (gm a32 (gm a64 a128)))))
theorem pw_sq {a : Nat} (ha : a < 256) (n : Nat) : sq (pw a n) = pw a (n + n) := (pw_add ha n n).symm
theorem chain_eq {a : Nat} (ha : a < 256) : chain a = gi a := by
  have h1 : a = pw a 1 := (one_gm ha).symm
  have h2 : sq a = pw a 2 := by conv => lhs; rw [h1]
                                exact pw_sq ha 1
  simp only [chain, h2, pw_sq ha, ← pw_add ha]
  rfl
theorem chain_all : ∀ a : Fin 256, a.val ≠ 0 → gm a.val (chain a.val) = 1 := by decide +kernel
theorem gm_gi {a : Nat} (h0 : a ≠ 0) (ha : a < 256) : gm a (gi a) = 1 := by rw [← chain_eq ha]; exact chain_all ⟨a, ha⟩ h0
theorem gi_gm {a : Nat} (h0 : a ≠ 0) (ha : a < 256) : gm (gi a) a = 1 := by rw [gm_comm gi_lt ha, gm_gi h0 ha]
theorem gm_cancel {a x y : Nat} (h0 : a ≠ 0) (ha : a < 256) (hx : x < 256) (hy : y < 256) (h : gm a x = gm a y) : x = y := by
  have := congrArg (gm (gi a)) h
  rwa [← gm_assoc gi_lt ha hx, ← gm_assoc gi_lt ha hy, gi_gm h0 ha, one_gm hx, one_gm hy] at this
theorem gm_eq_zero {a b : Nat} (ha : a < 256) (hb : b < 256) (h : gm a b = 0) : a = 0 ∨ b = 0 := by
  by_cases h0 : a = 0
  · exact .inl h0
  · right
    exact gm_cancel h0 ha hb (by omega) (by rw [h, gm_zero])
theorem gi_ne {a : Nat} (h0 : a ≠ 0) (ha : a < 256) : gi a ≠ 0 := by
  intro h; have := gm_gi h0 ha; rw [h, gm_zero] at this; cases this
theorem gi_uniq {a b : Nat} (h0 : a ≠ 0) (ha : a < 256) (hb : b < 256) (h : gm a b = 1) : b = gi a :=
  gm_cancel h0 ha hb gi_lt (by rw [h, gm_gi h0 ha])
end Go.Proofs.Ytgkjgaijjihmgaa.Gf
