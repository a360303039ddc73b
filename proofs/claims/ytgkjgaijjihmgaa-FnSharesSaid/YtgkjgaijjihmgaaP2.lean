/- The shares of a secret: polynomials, and what any of them give together; there is no program here and no condition. -/
import Derived.Test.YtgkjgaijjihmgaaP1
import Derived.Test.YtgkjgaijjihmgaaA1
namespace Go.Proofs.Ytgkjgaijjihmgaa
open Go.RowKit Gf
/-- the value after t rounds, from the highest coefficient down -/
def hv (seed : Int) (i k x : Nat) : Nat → Nat
  | 0 => 0
  | t + 1 => gm (hv seed i k x t ^^^ (nz seed i ((k - 1 - t : Nat) : Int)).toNat) x
theorem nzN_lt (s i j : Int) : (nz s i j).toNat < 256 := by have := nz_bd s i j; omega
theorem hv_lt (seed : Int) (i k x t : Nat) : hv seed i k x t < 256 := by
  induction t with
  | zero => show 0 < 256; omega
  | succ t ih => exact gm_lt _ (xor_lt ih (nzN_lt _ _ _))
def co (seed : Int) (i k t : Nat) : List F := (List.range' (k - t) t).map fun (j : Nat) => fN (nz seed i (j : Int)).toNat
theorem co_length (seed : Int) (i k t : Nat) : (co seed i k t).length = t := by simp [co]
theorem co_succ (seed : Int) (i k t : Nat) (h : t + 1 ≤ k) : co seed i k (t + 1) = fN (nz seed i ((k - 1 - t : Nat) : Int)).toNat :: co seed i k t := by
  unfold co
  rw [List.range'_succ, List.map_cons, show k - (t + 1) = k - 1 - t from by omega, show k - 1 - t + 1 = k - t from by omega]
theorem hv_ev (seed : Int) (i k x : Nat) (hx : x < 256) : ∀ t, t + 1 ≤ k → fN (hv seed i k x t) = fN x * ev (co seed i k t) (fN x) := by
  intro t ht
  induction t with
  | zero => exact (mul_zero _).symm
  | succ t ih =>
    have ih := ih (by omega)
    have h1 := nzN_lt seed i ((k - 1 - t : Nat) : Int)
    rw [co_succ _ _ _ _ (by omega), hv, fN_gm (xor_lt (hv_lt _ _ _ _ _) h1) hx, fN_xor (hv_lt _ _ _ _ _) h1, ih, mul_comm _ (fN x), add_comm]
    rfl
/-- the bytes of the share at x -/
def spB (seed : Int) (k x : Nat) (secret : List UInt8) : List UInt8 := (List.range secret.length).map fun i => UInt8.ofNat (hv seed i k x (k - 1)) ^^^ (secret[i]?.getD 0)
theorem spB_length (seed : Int) (k x : Nat) (secret : List UInt8) : (spB seed k x secret).length = secret.length := by simp [spB]
theorem spB_get (seed : Int) (k x : Nat) (secret : List UInt8) (i : Nat) (h : i < (spB seed k x secret).length) (hs : i < secret.length) :
    (spB seed k x secret)[i] = UInt8.ofNat (hv seed i k x (k - 1)) ^^^ secret[i] := by
  simp only [spB, List.getElem_map, List.getElem_range, List.getElem?_eq_getElem hs, Option.getD_some]
theorem spB_nat (seed : Int) (k x : Nat) (secret : List UInt8) (i : Nat) (h : i < (spB seed k x secret).length) (hs : i < secret.length) :
    (spB seed k x secret)[i].toNat = hv seed i k x (k - 1) ^^^ secret[i].toNat := by
  have := hv_lt seed i k x (k - 1)
  rw [spB_get _ _ _ _ _ h hs, UInt8.toNat_xor, UInt8.toNat_ofNat', Nat.mod_eq_of_lt (by omega)]
/-- the shares 1 .. n -/
def spS (seed : Int) (k n : Nat) (secret : List UInt8) : List Sh := (List.range n).map fun (x : Nat) => (((x + 1 : Nat) : Int), spB seed k (x + 1) secret)
theorem spS_length (seed : Int) (k n : Nat) (secret : List UInt8) : (spS seed k n secret).length = n := by simp [spS]
theorem spS_get (seed : Int) (k n : Nat) (secret : List UInt8) (j : Nat) (h : j < (spS seed k n secret).length) : (spS seed k n secret)[j] = (((j + 1 : Nat) : Int), spB seed k (j + 1) secret) := by
  simp [spS]
theorem spS_succ (seed : Int) (k n : Nat) (secret : List UInt8) : spS seed k (n + 1) secret = spS seed k n secret ++ [(((n + 1 : Nat) : Int), spB seed k (n + 1) secret)] := by
  simp [spS, List.range_succ]
/-- the polynomial of one byte -/
def poly (seed : Int) (k i : Nat) (s : UInt8) : List F := fN s.toNat :: co seed i k (k - 1)
theorem poly_length (seed : Int) (k i : Nat) (s : UInt8) (hk : 1 ≤ k) : (poly seed k i s).length = k := by
  simp only [poly, List.length_cons, co_length]; omega
theorem poly_zero (seed : Int) (k i : Nat) (s : UInt8) : (ev (poly seed k i s) (fN 0)).v = s.toNat := by
  show (fN s.toNat + fN 0 * ev (co seed i k (k - 1)) (fN 0)).v = _
  rw [fN_zero, zero_mul, add_zero, fN_v s.toNat_lt]
theorem sp_ev (seed : Int) (k x i : Nat) (s : UInt8) (hk : 1 ≤ k) (hx : x < 256) : fN (hv seed i k x (k - 1) ^^^ s.toNat) = ev (poly seed k i s) (fN x) := by
  rw [fN_xor (hv_lt _ _ _ _ _) s.toNat_lt, hv_ev seed i k x hx (k - 1) (by omega), add_comm]
  rfl
/-- a share of a secret -/
def OfSplit (seed : Int) (k : Nat) (secret : List UInt8) (s : Sh) : Prop := ∃ x : Nat, 1 ≤ x ∧ x ≤ 12 ∧ s = ((x : Int), spB seed k x secret)
theorem spS_of (seed : Int) (k n : Nat) (secret : List UInt8) (hn : n ≤ 12) {s : Sh} (h : s ∈ spS seed k n secret) : OfSplit seed k secret s := by
  obtain ⟨x, hx, rfl⟩ := List.mem_map.1 h
  have := List.mem_range.1 hx
  exact ⟨x + 1, by omega, by omega, rfl⟩
theorem OfSplit.x {seed : Int} {k : Nat} {secret : List UInt8} {ss : List Sh} {j : Nat} (hj : j < ss.length) (h : OfSplit seed k secret ss[j]) : 1 ≤ xN ss j ∧ xN ss j ≤ 12 ∧ ss[j] = ((xN ss j : Int), spB seed k (xN ss j) secret) := by
  obtain ⟨x, h1, h2, e⟩ := h
  have hx : xN ss j = x := by
    unfold xN
    rw [List.getElem?_eq_getElem hj]
    simp [e]
  rw [hx]
  exact ⟨h1, h2, e⟩
theorem OfSplit.d {seed : Int} {k : Nat} {secret : List UInt8} {ss : List Sh} {j p : Nat} (hj : j < ss.length) (h : OfSplit seed k secret ss[j]) (hk : 1 ≤ k) (hp : p < secret.length) :
    fN (dN ss j p) = ev (poly seed k p secret[p]) (fN (xN ss j)) := by
  obtain ⟨h1, h2, e⟩ := h.x hj
  have hl : p < ss[j].2.length := by rw [e]; simp only [spB_length]; exact hp
  have : dN ss j p = hv seed p k (xN ss j) (k - 1) ^^^ secret[p].toNat := by
    rw [dN_eq hj hl]
    have e2 : ss[j].2 = spB seed k (xN ss j) secret := by rw [e]
    rw [← spB_nat seed k (xN ss j) secret p (by rw [spB_length]; exact hp) hp]
    congr 1
    simp only [e2]
  rw [this]
  exact sp_ev _ _ _ _ _ hk (by omega)
/-- any k of them give the polynomials' values -/
theorem split_at {seed : Int} {k x : Nat} {secret : List UInt8} {ss : List Sh} (hk : 1 ≤ k) (hx : x < 256) (hl : k ≤ ss.length) (h : ∀ j (hj : j < ss.length), j < k → OfSplit seed k secret ss[j])
    (hd : ∀ a b (ha : a < ss.length) (hb : b < ss.length), a < k → b < k → ss[a].1 = ss[b].1 → a = b) {p : Nat} (hp : p < secret.length) : vl ss k x p k = (ev (poly seed k p secret[p]) (fN x)).v := by
  refine vl_ev ss k x p _ (Nat.le_of_eq (poly_length _ _ _ _ hk)) hx ?_ ?_ ?_
  · intro j hj
    have := ((h j (by omega) hj).x (by omega)).2.1
    omega
  · intro a b ha hb e
    refine hd a b (by omega) (by omega) ha hb ?_
    have e1 := ((h a (by omega) ha).x (by omega)).2.2
    have e2 := ((h b (by omega) hb).x (by omega)).2.2
    rw [e1, e2, e]
  · intro j hj
    exact (h j (by omega) hj).d (by omega) hk hp
theorem split_zero {seed : Int} {k : Nat} {secret : List UInt8} {ss : List Sh} (hk : 1 ≤ k) (hl : k ≤ ss.length) (h : ∀ j (hj : j < ss.length), j < k → OfSplit seed k secret ss[j])
    (hd : ∀ a b (ha : a < ss.length) (hb : b < ss.length), a < k → b < k → ss[a].1 = ss[b].1 → a = b) : accB ss k 0 secret.length k = secret := by
  refine List.ext_getElem (accB_length _ _ _ _ _) fun p h1 h2 => ?_
  apply UInt8.toNat_inj.1
  rw [accB_get, split_at hk (by omega) hl h hd h2, poly_zero]
theorem split_fit {seed : Int} {k : Nat} {secret : List UInt8} {ss : List Sh} (hk : 1 ≤ k) (hl : k ≤ ss.length) (h : ∀ j (hj : j < ss.length), OfSplit seed k secret ss[j])
    (hd : ∀ a b (ha : a < ss.length) (hb : b < ss.length), a < k → b < k → ss[a].1 = ss[b].1 → a = b) {m : Nat} (hm : m < ss.length) : accB ss k (xN ss m) secret.length k = ss[m].2 := by
  obtain ⟨h1, h2, e⟩ := (h m hm).x hm
  have hml : ss[m].2.length = secret.length := by rw [e]; exact spB_length _ _ _ _
  refine List.ext_getElem (by rw [accB_length, hml]) fun p hp1 hp2 => ?_
  have hp : p < secret.length := by rw [← hml]; exact hp2
  apply UInt8.toNat_inj.1
  rw [accB_get, split_at hk (by omega) hl (fun j hj _ => h j hj) hd hp, ← (h m hm).d hm hk hp, fN_v (dN_lt _ _ _), dN_eq hm hp2]
end Go.Proofs.Ytgkjgaijjihmgaa
