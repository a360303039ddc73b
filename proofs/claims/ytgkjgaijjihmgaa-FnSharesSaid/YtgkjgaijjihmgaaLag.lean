import Derived.Test.YtgkjgaijjihmgaaGf
namespace Go.Proofs.Ytgkjgaijjihmgaa.Gf

structure F where
  v : Nat
  h : v < 256
deriving DecidableEq

theorem F.ext' {a b : F} (h : a.v = b.v) : a = b := by cases a; cases b; simp at h; subst h; rfl
instance : Add F := ⟨fun a b => ⟨a.v ^^^ b.v, xor_lt a.h b.h⟩⟩
instance : Mul F := ⟨fun a b => ⟨gm a.v b.v, gm_lt _ a.h⟩⟩
def F.zero : F := ⟨0, by omega⟩
def F.one : F := ⟨1, by omega⟩
def F.inv (a : F) : F := ⟨gi a.v, gi_lt⟩
theorem F.add_v (a b : F) : (a + b).v = a.v ^^^ b.v := rfl
theorem F.mul_v (a b : F) : (a * b).v = gm a.v b.v := rfl
theorem add_comm (a b : F) : a + b = b + a := F.ext' (Nat.xor_comm _ _)
theorem add_assoc (a b c : F) : a + b + c = a + (b + c) := F.ext' (Nat.xor_assoc _ _ _)
theorem add_self (a : F) : a + a = F.zero := F.ext' (Nat.xor_self _)
theorem zero_add (a : F) : F.zero + a = a := F.ext' (Nat.zero_xor _)
theorem add_zero (a : F) : a + F.zero = a := F.ext' (Nat.xor_zero _)
theorem mul_comm (a b : F) : a * b = b * a := F.ext' (gm_comm a.h b.h)
theorem mul_assoc (a b c : F) : a * b * c = a * (b * c) := F.ext' (gm_assoc a.h b.h c.h)
theorem one_mul (a : F) : F.one * a = a := F.ext' (one_gm a.h)
theorem mul_one (a : F) : a * F.one = a := F.ext' (gm_one a.h)
theorem zero_mul (a : F) : F.zero * a = F.zero := F.ext' (zero_gm _)
theorem mul_zero (a : F) : a * F.zero = F.zero := F.ext' (gm_zero _)
theorem mul_add (a b c : F) : a * (b + c) = a * b + a * c := F.ext' (gm_xor_right _ _)
theorem add_mul (a b c : F) : (a + b) * c = a * c + b * c := F.ext' (gm_xor_left _ a.h b.h)
theorem ne_zero {a : F} (h : a ≠ F.zero) : a.v ≠ 0 := fun e => h (F.ext' e)
theorem mul_inv {a : F} (h : a ≠ F.zero) : a * a.inv = F.one := F.ext' (gm_gi (ne_zero h) a.h)
theorem inv_mul {a : F} (h : a ≠ F.zero) : a.inv * a = F.one := F.ext' (gi_gm (ne_zero h) a.h)
theorem mul_eq_zero {a b : F} (h : a * b = F.zero) : a = F.zero ∨ b = F.zero := by
  rcases gm_eq_zero a.h b.h (congrArg F.v h) with e | e
  · exact .inl (F.ext' e)
  · exact .inr (F.ext' e)
theorem one_ne_zero : F.one ≠ F.zero := by intro h; cases congrArg F.v h
theorem inv_ne {a : F} (h : a ≠ F.zero) : a.inv ≠ F.zero := fun e => by
  have := mul_inv h; rw [e, mul_zero] at this; exact one_ne_zero this.symm
theorem add_eq_zero {a b : F} (h : a + b = F.zero) : a = b := by
  have := congrArg (· + b) h
  simp only [add_assoc, add_self, add_zero, zero_add] at this
  exact this
theorem add_ne {a b : F} (h : a ≠ b) : a + b ≠ F.zero := fun e => h (add_eq_zero e)
theorem add_add_cancel (a b : F) : a + (a + b) = b := by rw [← add_assoc, add_self, zero_add]
theorem mul_left_comm (a b c : F) : a * (b * c) = b * (a * c) := by rw [← mul_assoc, mul_comm a, mul_assoc]
theorem add_left_comm (a b c : F) : a + (b + c) = b + (a + c) := by rw [← add_assoc, add_comm a, add_assoc]

instance : Std.Associative (α := F) (· + ·) := ⟨add_assoc⟩
instance : Std.Commutative (α := F) (· + ·) := ⟨add_comm⟩
instance : Std.Associative (α := F) (· * ·) := ⟨mul_assoc⟩
instance : Std.Commutative (α := F) (· * ·) := ⟨mul_comm⟩

def sum (l : List F) (f : F → F) : F := l.foldr (fun a s => f a + s) F.zero
def prod (l : List F) (f : F → F) : F := l.foldr (fun a s => f a * s) F.one
theorem sum_nil (f : F → F) : sum [] f = F.zero := rfl
theorem sum_cons (a : F) (l : List F) (f : F → F) : sum (a :: l) f = f a + sum l f := rfl
theorem prod_nil (f : F → F) : prod [] f = F.one := rfl
theorem prod_cons (a : F) (l : List F) (f : F → F) : prod (a :: l) f = f a * prod l f := rfl
theorem sum_congr {l : List F} {f g : F → F} (h : ∀ a, a ∈ l → f a = g a) : sum l f = sum l g := by
  induction l with
  | nil => rfl
  | cons a l ih => rw [sum_cons, sum_cons, h a List.mem_cons_self, ih fun b hb => h b (List.mem_cons_of_mem _ hb)]
theorem sum_add (l : List F) (f g : F → F) : sum l (fun a => f a + g a) = sum l f + sum l g := by
  induction l with
  | nil => exact (add_zero _).symm
  | cons a l ih => rw [sum_cons, sum_cons, sum_cons, ih, add_assoc, add_assoc, add_left_comm (g a)]
theorem sum_mul (l : List F) (c : F) (f : F → F) : sum l (fun a => c * f a) = c * sum l f := by
  induction l with
  | nil => exact (mul_zero _).symm
  | cons a l ih => rw [sum_cons, sum_cons, ih, mul_add]
theorem prod_congr {l : List F} {f g : F → F} (h : ∀ a, a ∈ l → f a = g a) : prod l f = prod l g := by
  induction l with
  | nil => rfl
  | cons a l ih => rw [prod_cons, prod_cons, h a List.mem_cons_self, ih fun b hb => h b (List.mem_cons_of_mem _ hb)]
theorem prod_mul (l : List F) (f g : F → F) : prod l (fun a => f a * g a) = prod l f * prod l g := by
  induction l with
  | nil => exact (mul_one _).symm
  | cons a l ih => rw [prod_cons, prod_cons, prod_cons, ih, mul_assoc, mul_assoc, mul_left_comm (g a)]
theorem prod_one (l : List F) : prod l (fun _ => F.one) = F.one := by
  induction l with
  | nil => rfl
  | cons b l ih => rw [prod_cons, ih, one_mul]
theorem prod_ne {l : List F} {f : F → F} (h : ∀ a, a ∈ l → f a ≠ F.zero) : prod l f ≠ F.zero := by
  induction l with
  | nil => exact one_ne_zero
  | cons a l ih =>
    rw [prod_cons]
    intro e
    rcases mul_eq_zero e with e | e
    · exact h a List.mem_cons_self e
    · exact ih (fun b hb => h b (List.mem_cons_of_mem _ hb)) e
theorem prod_split {l : List F} (hn : l.Nodup) {c : F} (hc : c ∈ l) (f : F → F) : prod l f = f c * prod (l.filter (· != c)) f := by
  induction l with
  | nil => cases hc
  | cons a l ih =>
    rw [List.nodup_cons] at hn
    by_cases hac : a = c
    · subst hac
      have : l.filter (· != a) = l := List.filter_eq_self.2 fun b hb => by simp; rintro rfl; exact hn.1 hb
      rw [List.filter_cons, if_neg (by simp), this, prod_cons]
    · have hcl : c ∈ l := by
        cases hc with
        | head => exact absurd rfl hac
        | tail _ h => exact h
      rw [List.filter_cons, if_pos (by simpa using hac), prod_cons, prod_cons, ih hn.2 hcl, mul_left_comm]

/-- the weight of node c at x -/
def ell (l : List F) (c x : F) : F := prod (l.filter (· != c)) (fun b => (x + b) * (c + b).inv)
def lag (l : List F) (f : F → F) (x : F) : F := sum l (fun c => f c * ell l c x)
def dd (l : List F) (c : F) : F := prod (l.filter (· != c)) (fun b => (c + b).inv)
def ww (l : List F) (x : F) : F := prod l (fun b => x + b)

theorem ell_dd {l : List F} (hn : l.Nodup) {c : F} (hc : c ∈ l) (x : F) : (x + c) * ell l c x = ww l x * dd l c := by
  unfold ell ww dd
  rw [prod_mul, prod_split hn hc (fun b => x + b), mul_assoc]
theorem filter_ne_self {a : F} {l : List F} (h : a ∉ l) : l.filter (· != a) = l :=
  List.filter_eq_self.2 fun b hb => by simp; rintro rfl; exact h hb
theorem ell_head {a : F} {l : List F} (h : a ∉ l) (x : F) : ell (a :: l) a x = prod l (fun b => (x + b) * (a + b).inv) := by
  unfold ell
  rw [List.filter_cons, if_neg (by simp), filter_ne_self h]
theorem ell_tail {a c : F} {l : List F} (h : a ≠ c) (x : F) : ell (a :: l) c x = (x + a) * (c + a).inv * ell l c x := by
  unfold ell
  rw [List.filter_cons, if_pos (by simpa using h), prod_cons]

theorem lag_one {l : List F} (hn : l.Nodup) (h0 : l ≠ []) (x : F) : lag l (fun _ => F.one) x = F.one := by
  induction l generalizing x with
  | nil => exact absurd rfl h0
  | cons a l ih =>
    rw [List.nodup_cons] at hn
    by_cases hl : l = []
    · subst hl
      simp only [lag, sum_cons, sum_nil, one_mul, add_zero, ell_head hn.1, prod_nil]
    · have hne : ∀ c, c ∈ l → a ≠ c := fun c hc e => hn.1 (e ▸ hc)
      have step : ∀ y, lag (a :: l) (fun _ => F.one) y = F.one + ww l y * (prod l (fun b => (a + b).inv) + sum l (fun c => dd l c * (c + a).inv)) := by
        intro y
        unfold lag
        rw [sum_cons, one_mul, ell_head hn.1, prod_mul]
        have e1 : sum l (fun c => F.one * ell (a :: l) c y) = sum l (fun c => F.one * ell l c y + ww l y * (dd l c * (c + a).inv)) := by
          refine sum_congr fun c hc => ?_
          rw [one_mul, one_mul, ell_tail (hne c hc), ← mul_assoc (ww l y), ← ell_dd hn.2 hc]
          have hca : c + a ≠ F.zero := add_ne (Ne.symm (hne c hc))
          have e2 : (y + a) * (c + a).inv = F.one + (y + c) * (c + a).inv := by
            have : y + a = (c + a) + (y + c) := by
              rw [show (c + a) + (y + c) = (c + c) + (y + a) from by ac_rfl, add_self, zero_add]
            rw [this, add_mul, mul_inv hca]
          rw [e2, add_mul, one_mul, mul_assoc, mul_assoc, mul_comm (c + a).inv]
        have this : sum l (fun c => F.one * ell l c y) = F.one := ih hn.2 hl y
        rw [e1, sum_add, this, sum_mul, mul_add, add_left_comm]
        rfl
      have hK : prod l (fun b => (a + b).inv) + sum l (fun c => dd l c * (c + a).inv) = F.zero := by
        have hw : ww l a ≠ F.zero := prod_ne fun b hb => add_ne (hne b hb)
        have h1 : ww l a * (prod l (fun b => (a + b).inv) + sum l (fun c => dd l c * (c + a).inv)) = F.zero := by
          rw [mul_add, ← sum_mul]
          have e1 : ww l a * prod l (fun b => (a + b).inv) = F.one := by
            unfold ww
            rw [← prod_mul]
            have : prod l (fun b => (a + b) * (a + b).inv) = prod l (fun _ => F.one) := prod_congr fun b hb => mul_inv (add_ne (hne b hb))
            rw [this, prod_one]
          have e2 : sum l (fun c => ww l a * (dd l c * (c + a).inv)) = sum l (fun c => F.one * ell l c a) := by
            refine sum_congr fun c hc => ?_
            have hca : c + a ≠ F.zero := add_ne (Ne.symm (hne c hc))
            rw [← mul_assoc, ← ell_dd hn.2 hc, add_comm a c, mul_comm, ← mul_assoc, inv_mul hca]
          have this : sum l (fun c => F.one * ell l c a) = F.one := ih hn.2 hl a
          rw [e1, e2, this, add_self]
        rcases mul_eq_zero h1 with e | e
        · exact absurd e hw
        · exact e
      rw [step, hK, mul_zero, add_zero]

/-- polynomials: the constant first -/
def ev : List F → F → F
  | [], _ => F.zero
  | c :: ds, x => c + x * ev ds x
def quot : List F → F → List F
  | [], _ => []
  | _ :: ds, a => match ds with
    | [] => []
    | d :: es => ev (d :: es) a :: quot (d :: es) a
theorem quot_length (p : List F) (a : F) : (quot p a).length = p.length - 1 := by
  induction p with
  | nil => rfl
  | cons c ds ih =>
    cases ds with
    | nil => rfl
    | cons d es => simp only [quot, List.length_cons, ih]; simp
theorem ev_quot (p : List F) (a x : F) : ev p x = ev p a + (x + a) * ev (quot p a) x := by
  induction p with
  | nil => simp only [ev, quot, mul_zero, add_zero]
  | cons c ds ih =>
    cases ds with
    | nil => simp only [ev, quot, mul_zero, add_zero]
    | cons d es =>
      have hq : quot (c :: d :: es) a = ev (d :: es) a :: quot (d :: es) a := rfl
      have h1 : ∀ y, ev (c :: d :: es) y = c + y * ev (d :: es) y := fun _ => rfl
      have h2 : ∀ y (e : F) q, ev (e :: q) y = e + y * ev q y := fun _ _ _ => rfl
      have h3 := h1 x
      rw [ih] at h3
      rw [hq, h3, h1 a, h2 x (ev (d :: es) a) (quot (d :: es) a)]
      generalize ev (d :: es) a = D
      generalize ev (quot (d :: es) a) x = Q
      simp only [mul_add, add_mul]
      rw [show c + a * D + (x * D + a * D + (x * (x * Q) + a * (x * Q))) = c + (x * D + (x * (x * Q) + x * (a * Q))) + (a * D + a * D) from by ac_rfl, add_self, add_zero]

theorem lag_ev (l : List F) (hn : l.Nodup) (p : List F) (hp : p.length ≤ l.length) (x : F) : lag l (ev p) x = ev p x := by
  induction l generalizing p with
  | nil =>
    have : p = [] := List.eq_nil_of_length_eq_zero (by simpa using hp)
    subst this; rfl
  | cons a l ih =>
    have hn' := List.nodup_cons.1 hn
    have hone := lag_one hn (by simp) x
    have hne : ∀ c, c ∈ l → a ≠ c := fun c hc e => hn'.1 (e ▸ hc)
    have hq := ih hn'.2 (quot p a) (by rw [quot_length]; simp at hp; omega)
    rw [ev_quot p a x]
    unfold lag at hone hq ⊢
    have e1 : sum (a :: l) (fun c => ev p c * ell (a :: l) c x) = sum (a :: l) (fun c => ev p a * (F.one * ell (a :: l) c x) + (c + a) * ev (quot p a) c * ell (a :: l) c x) := by
      refine sum_congr fun c _ => ?_
      rw [ev_quot p a c, add_mul, one_mul]
    rw [e1, sum_add, sum_mul, hone, mul_one]
    congr 1
    rw [sum_cons, add_self, zero_mul, zero_mul, zero_add, ← hq, ← sum_mul]
    refine sum_congr fun c hc => ?_
    have hca : c + a ≠ F.zero := add_ne (Ne.symm (hne c hc))
    rw [ell_tail (hne c hc)]
    rw [mul_comm (c + a), mul_assoc, mul_comm (x + a) (c + a).inv, mul_assoc, ← mul_assoc (c + a), mul_inv hca, one_mul, mul_left_comm]
end Go.Proofs.Ytgkjgaijjihmgaa.Gf
