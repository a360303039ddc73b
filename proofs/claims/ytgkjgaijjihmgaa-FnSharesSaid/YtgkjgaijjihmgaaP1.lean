/- The values that shares give: the numbers that the two programs compute, and what Lagrange's sum says of them; there is no program here and no condition. -/
import Derived.Test.YtgkjgaijjihmgaaMem4
import Derived.Test.YtgkjgaijjihmgaaLag
namespace Go.Proofs.Ytgkjgaijjihmgaa
open Go.RowKit Gf
/-- the place of a share, its byte -/
def xN (ss : List Sh) (k : Nat) : Nat := ((ss[k]?.map fun s : Sh => s.1).getD 0).toNat
def dN (ss : List Sh) (k p : Nat) : Nat := (((ss[k]?.map fun s : Sh => s.2).getD [])[p]?.getD 0).toNat
theorem dN_lt (ss : List Sh) (k p : Nat) : dN ss k p < 256 := UInt8.toNat_lt _
theorem xN_eq {ss : List Sh} {k : Nat} (hk : k < ss.length) (h0 : 0 ≤ ss[k].1) : ss[k].1 = (xN ss k : Int) := by
  unfold xN
  rw [List.getElem?_eq_getElem hk]
  simp only [Option.map_some, Option.getD_some]
  omega
theorem dN_eq {ss : List Sh} {k p : Nat} (hk : k < ss.length) (hp : p < ss[k].2.length) : dN ss k p = ss[k].2[p].toNat := by
  unfold dN
  rw [List.getElem?_eq_getElem hk]
  simp only [Option.map_some, Option.getD_some, List.getElem?_eq_getElem hp]
/-- the factor of share i at x, of the first m shares -/
def fac (ss : List Sh) (x i : Nat) : Nat → Nat
  | 0 => 1
  | m + 1 => if m = i then fac ss x i m else gm (fac ss x i m) (gm (x ^^^ xN ss m) (gi (xN ss i ^^^ xN ss m)))
/-- the reference's term -/
def trm (ss : List Sh) (x i p : Nat) : Nat → Nat
  | 0 => dN ss i p
  | m + 1 => if m = i then trm ss x i p m else gm (trm ss x i p m) (gm (x ^^^ xN ss m) (gi (xN ss i ^^^ xN ss m)))
theorem fac_lt (ss : List Sh) (x i m : Nat) : fac ss x i m < 256 := by
  induction m with
  | zero => show 1 < 256; omega
  | succ m ih =>
    rw [fac]
    split
    · exact ih
    · exact gm_lt _ ih
theorem trm_lt (ss : List Sh) (x i p m : Nat) : trm ss x i p m < 256 := by
  induction m with
  | zero => exact dN_lt _ _ _
  | succ m ih =>
    rw [trm]
    split
    · exact ih
    · exact gm_lt _ ih
def tw (ss : List Sh) (x i m : Nat) : Nat := gm (x ^^^ xN ss m) (gi (xN ss i ^^^ xN ss m))
theorem trm_eq (ss : List Sh) (x i p m : Nat) (hx : x < 256) (h : ∀ j, j < m → xN ss j < 256) : trm ss x i p m = gm (fac ss x i m) (dN ss i p) := by
  have hd := dN_lt ss i p
  induction m with
  | zero => exact (one_gm hd).symm
  | succ m ih =>
    have hf := fac_lt ss x i m
    have ih := ih fun j hj => h j (by omega)
    have hxm := h m (by omega)
    rw [trm, fac]
    split
    · exact ih
    · have ht : gm (x ^^^ xN ss m) (gi (xN ss i ^^^ xN ss m)) < 256 := gm_lt _ (xor_lt hx hxm)
      rw [ih, gm_assoc hf hd ht, gm_comm hd ht, ← gm_assoc hf ht hd]
/-- the value at x of the first i terms, of K shares -/
def vl (ss : List Sh) (K x p : Nat) : Nat → Nat
  | 0 => 0
  | i + 1 => vl ss K x p i ^^^ gm (fac ss x i K) (dN ss i p)
theorem vl_lt (ss : List Sh) (K x p i : Nat) : vl ss K x p i < 256 := by
  induction i with
  | zero => show 0 < 256; omega
  | succ i ih => exact xor_lt ih (gm_lt _ (fac_lt _ _ _ _))
/-- the bytes of the first i terms -/
def accB (ss : List Sh) (K x L i : Nat) : List UInt8 := (List.range L).map fun p => UInt8.ofNat (vl ss K x p i)
theorem accB_length (ss : List Sh) (K x L i : Nat) : (accB ss K x L i).length = L := by simp [accB]
theorem accB_get (ss : List Sh) (K x L i p : Nat) (h : p < (accB ss K x L i).length) : (accB ss K x L i)[p].toNat = vl ss K x p i := by
  have := vl_lt ss K x p i
  simp only [accB, List.getElem_map, List.getElem_range, UInt8.toNat_ofNat']
  omega
theorem accB_zero (ss : List Sh) (K x L : Nat) : accB ss K x L 0 = List.replicate L 0 := by
  unfold accB
  exact List.ext_getElem (by simp) fun k h1 h2 => by simp [vl]
/-! Lagrange -/
def fN (n : Nat) : F := ⟨n % 256, by omega⟩
theorem fN_v {n : Nat} (h : n < 256) : (fN n).v = n := Nat.mod_eq_of_lt h
theorem fN_inj {a b : Nat} (ha : a < 256) (hb : b < 256) (h : fN a = fN b) : a = b := by
  have := congrArg F.v h
  rwa [fN_v ha, fN_v hb] at this
theorem fN_xor {a b : Nat} (ha : a < 256) (hb : b < 256) : fN (a ^^^ b) = fN a + fN b := F.ext' (by
  rw [F.add_v, fN_v ha, fN_v hb, fN_v (xor_lt ha hb)])
theorem fN_gm {a b : Nat} (ha : a < 256) (hb : b < 256) : fN (gm a b) = fN a * fN b := F.ext' (by
  rw [F.mul_v, fN_v ha, fN_v hb, fN_v (gm_lt _ ha)])
theorem fN_gi {a : Nat} (ha : a < 256) : fN (gi a) = (fN a).inv := F.ext' (by
  show (fN (gi a)).v = gi (fN a).v
  rw [fN_v ha, fN_v gi_lt])
theorem fN_zero : fN 0 = F.zero := rfl
theorem prod_append (l m : List F) (f : F → F) : prod (l ++ m) f = prod l f * prod m f := by
  induction l with
  | nil => exact (one_mul _).symm
  | cons a l ih => rw [List.cons_append, prod_cons, prod_cons, ih, mul_assoc]
theorem sum_append (l m : List F) (f : F → F) : sum (l ++ m) f = sum l f + sum m f := by
  induction l with
  | nil => exact (zero_add _).symm
  | cons a l ih => rw [List.cons_append, sum_cons, sum_cons, ih, add_assoc]
def nodes (ss : List Sh) (K : Nat) : List F := (List.range K).map fun i => fN (xN ss i)
theorem nodes_length (ss : List Sh) (K : Nat) : (nodes ss K).length = K := by simp [nodes]
theorem nodes_succ (ss : List Sh) (K : Nat) : nodes ss (K + 1) = nodes ss K ++ [fN (xN ss K)] := by
  simp [nodes, List.range_succ]
theorem nodes_mem {ss : List Sh} {K i : Nat} (h : i < K) : fN (xN ss i) ∈ nodes ss K := List.mem_map.2 ⟨i, List.mem_range.2 h, rfl⟩
theorem fac_ell (ss : List Sh) (K x i : Nat) (hx : x < 256) (hX : ∀ j, j < K → xN ss j < 256) (hi : i < K) (hd : ∀ a b, a < K → b < K → xN ss a = xN ss b → a = b) :
    ∀ m, m ≤ K → fN (fac ss x i m) = prod ((nodes ss m).filter (· != fN (xN ss i))) (fun b => (fN x + b) * (fN (xN ss i) + b).inv) := by
  intro m hm
  induction m with
  | zero => rfl
  | succ m ih =>
    have ih := ih (by omega)
    have hxm := hX m (by omega)
    have hxi := hX i hi
    rw [nodes_succ, List.filter_append, prod_append, ← ih, fac]
    by_cases h : m = i
    · subst h
      rw [if_pos rfl, List.filter_cons, if_neg (by simp), List.filter_nil, prod_nil, mul_one]
    · have hne : fN (xN ss m) ≠ fN (xN ss i) := fun e => h (hd m i (by omega) hi (fN_inj hxm hxi e))
      rw [if_neg h, List.filter_cons, if_pos (by simpa using hne), List.filter_nil, prod_cons, prod_nil, mul_one, fN_gm (fac_lt _ _ _ _) (gm_lt _ (xor_lt hx hxm)),
        fN_gm (xor_lt hx hxm) gi_lt, fN_gi (xor_lt hxi hxm), fN_xor hx hxm, fN_xor hxi hxm]
theorem vl_lag (ss : List Sh) (K x p : Nat) (f : F → F) (hx : x < 256) (hX : ∀ j, j < K → xN ss j < 256) (hd : ∀ a b, a < K → b < K → xN ss a = xN ss b → a = b)
    (hf : ∀ j, j < K → fN (dN ss j p) = f (fN (xN ss j))) : fN (vl ss K x p K) = lag (nodes ss K) f (fN x) := by
  have key : ∀ i, i ≤ K → fN (vl ss K x p i) = sum (nodes ss i) (fun c => f c * ell (nodes ss K) c (fN x)) := by
    intro i hi
    induction i with
    | zero => rfl
    | succ i ih =>
      have ih := ih (by omega)
      have hfl := fac_lt ss x i K
      have hdl := dN_lt ss i p
      rw [nodes_succ, sum_append, ← ih, sum_cons, sum_nil, add_zero, vl, fN_xor (vl_lt _ _ _ _ _) (gm_lt _ hfl), fN_gm hfl hdl, fac_ell ss K x i hx hX (by omega) hd K (Nat.le_refl _), hf i (by omega), mul_comm (f _)]
      rfl
  exact key K (Nat.le_refl _)
theorem nodes_nodup {ss : List Sh} {K : Nat} (hX : ∀ j, j < K → xN ss j < 256) (hd : ∀ a b, a < K → b < K → xN ss a = xN ss b → a = b) : (nodes ss K).Nodup := by
  induction K with
  | zero => exact List.nodup_nil
  | succ K ih =>
    rw [nodes_succ, List.nodup_append]
    refine ⟨ih (fun j hj => hX j (by omega)) (fun a b ha hb => hd a b (by omega) (by omega)), by simp, ?_⟩
    intro a ha b hb
    rw [List.mem_singleton] at hb
    subst hb
    obtain ⟨i, hi, rfl⟩ := List.mem_map.1 ha
    have hi := List.mem_range.1 hi
    intro e
    have := hd i K (by omega) (by omega) (fN_inj (hX i (by omega)) (hX K (by omega)) e)
    omega
/-- the value at x of any K shares of a polynomial of degree below K -/
theorem vl_ev (ss : List Sh) (K x p : Nat) (q : List F) (hq : q.length ≤ K) (hx : x < 256) (hX : ∀ j, j < K → xN ss j < 256) (hd : ∀ a b, a < K → b < K → xN ss a = xN ss b → a = b)
    (hf : ∀ j, j < K → fN (dN ss j p) = ev q (fN (xN ss j))) : vl ss K x p K = (ev q (fN x)).v := by
  have h := vl_lag ss K x p (ev q) hx hX hd hf
  rw [lag_ev _ (nodes_nodup hX hd) _ (by rw [nodes_length]; exact hq)] at h
  have := congrArg F.v h
  rwa [fN_v (vl_lt _ _ _ _ _)] at this
/-- one share is off: the value is off at each x that is no node -/
theorem vl_bent (ss : List Sh) (K x p m : Nat) (q : List F) (hq : q.length ≤ K) (hx : x < 256) (hX : ∀ j, j < K → xN ss j < 256) (hd : ∀ a b, a < K → b < K → xN ss a = xN ss b → a = b) (hm : m < K)
    (hxn : ∀ j, j < K → xN ss j ≠ x)
    (hf : ∀ j, j < K → j ≠ m → fN (dN ss j p) = ev q (fN (xN ss j))) (hb : fN (dN ss m p) ≠ ev q (fN (xN ss m))) : vl ss K x p K ≠ (ev q (fN x)).v := by
  have hn := nodes_nodup hX hd
  have h := vl_lag ss K x p (fun c => ev q c + (if c = fN (xN ss m) then fN (dN ss m p) + ev q (fN (xN ss m)) else F.zero)) hx hX hd (by
    intro j hj
    by_cases e : j = m
    · subst e
      rw [if_pos rfl, add_left_comm, add_self, add_zero]
    · rw [if_neg (fun h => e (hd j m hj hm (fN_inj (hX j hj) (hX m hm) h))), add_zero, hf j hj e])
  have h2 : lag (nodes ss K) (fun c => ev q c + (if c = fN (xN ss m) then fN (dN ss m p) + ev q (fN (xN ss m)) else F.zero)) (fN x)
      = ev q (fN x) + (fN (dN ss m p) + ev q (fN (xN ss m))) * ell (nodes ss K) (fN (xN ss m)) (fN x) := by
    rw [← lag_ev _ hn q (by rw [nodes_length]; exact hq) (fN x)]
    unfold lag
    have e1 : sum (nodes ss K) (fun c => (ev q c + (if c = fN (xN ss m) then fN (dN ss m p) + ev q (fN (xN ss m)) else F.zero)) * ell (nodes ss K) c (fN x))
        = sum (nodes ss K) (fun c => ev q c * ell (nodes ss K) c (fN x) + (if c = fN (xN ss m) then fN (dN ss m p) + ev q (fN (xN ss m)) else F.zero) * ell (nodes ss K) c (fN x)) :=
      sum_congr fun c _ => add_mul _ _ _
    rw [e1, sum_add]
    congr 1
    have one : ∀ (l : List F) (a d : F) (g : F → F), l.Nodup → a ∈ l → sum l (fun c => (if c = a then d else F.zero) * g c) = d * g a := by
      intro l a d g hl ha
      induction l with
      | nil => cases ha
      | cons b l ih =>
        rw [List.nodup_cons] at hl
        rw [sum_cons]
        by_cases hba : b = a
        · subst hba
          rw [if_pos rfl]
          have : sum l (fun c => (if c = b then d else F.zero) * g c) = sum l (fun _ => F.zero) := sum_congr fun c hc => by
            have hcb : c ≠ b := by
              rintro rfl
              exact hl.1 hc
            rw [if_neg hcb, zero_mul]
          have z : ∀ l : List F, sum l (fun _ => F.zero) = F.zero := by
            intro l
            induction l with
            | nil => rfl
            | cons a l ih => rw [sum_cons, ih, add_zero]
          rw [this, z, add_zero]
        · have hal : a ∈ l := by
            cases ha with
            | head => exact absurd rfl hba
            | tail _ h => exact h
          rw [if_neg hba, zero_mul, zero_add, ih hl.2 hal]
    exact one _ _ _ _ hn (nodes_mem hm)
  rw [h2] at h
  intro e
  have e' : fN (vl ss K x p K) = ev q (fN x) := F.ext' (by rw [fN_v (vl_lt _ _ _ _ _), e])
  rw [e'] at h
  have hz : (fN (dN ss m p) + ev q (fN (xN ss m))) * ell (nodes ss K) (fN (xN ss m)) (fN x) = F.zero := by
    have := congrArg (fun y => ev q (fN x) + y) h
    simp only [add_self, add_add_cancel] at this
    exact this.symm
  rcases mul_eq_zero hz with z | z
  · exact hb (add_eq_zero z)
  · refine prod_ne (fun b hb => ?_) z
    obtain ⟨hb1, hb2⟩ := List.mem_filter.1 hb
    obtain ⟨i, hi, rfl⟩ := List.mem_map.1 hb1
    have hi := List.mem_range.1 hi
    have hne : fN (xN ss i) ≠ fN (xN ss m) := by simpa using hb2
    intro z2
    rcases mul_eq_zero z2 with z2 | z2
    · exact hxn i hi (fN_inj hx (hX i hi) (add_eq_zero z2)).symm
    · exact inv_ne (add_ne (Ne.symm hne)) z2
end Go.Proofs.Ytgkjgaijjihmgaa
