/- The plain law of split shares: any k of them open; one that is bent fits not. -/
import Derived.Test.YtgkjgaijjihmgaaA35
import Derived.Test.YtgkjgaijjihmgaaA24
namespace Go.Proofs.Ytgkjgaijjihmgaa
open Go.RowKit Gf
set_option maxRecDepth 100000
theorem spOk_true {m : Nat} {n k seed : Int} (h : spOk m n k seed = true) : 1 ≤ m ∧ m ≤ 64 ∧ 1 ≤ n ∧ n ≤ 12 ∧ 1 ≤ k ∧ k ≤ n ∧ 0 ≤ seed ∧ seed ≤ 2147483647 := by
  unfold spOk at h
  rw [Bool.and_eq_true, Bool.and_eq_true, Bool.and_eq_true] at h
  have h1 := inB_true.1 h.1.1.1
  have h2 := inB_true.1 h.1.1.2
  have h3 := inB_true.1 h.1.2
  have h4 := inB_true.1 h.2
  omega
/-- shares that come of one split -/
structure Spl (seed : Int) (K : Nat) (l : List UInt8) (ss : List Sh) : Prop where
  of : ∀ j (hj : j < ss.length), OfSplit seed K l ss[j]
  d : ∀ a b (ha : a < ss.length) (hb : b < ss.length), ss[a].1 = ss[b].1 → a = b
theorem OfSplit.len {seed : Int} {K : Nat} {l : List UInt8} {s : Sh} (h : OfSplit seed K l s) : s.2.length = l.length := by
  obtain ⟨x, _, _, rfl⟩ := h
  exact spB_length _ _ _ _
theorem OfSplit.shOk {seed : Int} {K : Nat} {l : List UInt8} {s : Sh} (h : OfSplit seed K l s) (h1 : 1 ≤ l.length) (h2 : l.length ≤ 64) : shOk s.1 s.2.length = true := by
  have hl := h.len
  obtain ⟨x, hx1, hx2, rfl⟩ := h
  unfold Proofs.Ytgkjgaijjihmgaa.shOk
  rw [inB_true.2 ⟨by show (1 : Int) ≤ (x : Int); omega, by show (x : Int) ≤ 255; omega⟩, hl, inB_true.2 ⟨by omega, by omega⟩]
  rfl
theorem lenS_of {ss : List Sh} {L : Nat} (h : ∀ j (hj : j < ss.length), ss[j].2.length = L) (h0 : 0 < ss.length) : lenS ss = L := by
  cases ss with
  | nil => simp at h0
  | cons s ss => exact h 0 (by simp)
theorem Spl.lenS {seed : Int} {K : Nat} {l : List UInt8} {ss : List Sh} (h : Spl seed K l ss) (h0 : 0 < ss.length) : lenS ss = l.length :=
  lenS_of (fun j hj => (h.of j hj).len) h0
theorem Spl.alike {seed : Int} {K : Nat} {l : List UInt8} {ss : List Sh} (h : Spl seed K l ss) (h1 : 1 ≤ l.length) (h2 : l.length ≤ 64) : alikeB ss = true := by
  refine alike_true fun k hk => ⟨?_, ?_⟩
  · rw [good_eq hk, (h.of k hk).shOk h1 h2, (h.of k hk).len, (h.of 0 (by omega)).len]
    simp
  · exact dup_false hk fun j hj e => by
      have := h.d j k (by omega) hk e
      omega
theorem Spl.cbOk {seed : Int} {K : Nat} {l : List UInt8} {ss : List Sh} (h : Spl seed K l ss) (h1 : 1 ≤ l.length) (h2 : l.length ≤ 64) (hK : 1 ≤ K) (hKn : K ≤ ss.length) (hn : ss.length ≤ 12) : cbOk ss (K : Int) = true := by
  unfold Proofs.Ytgkjgaijjihmgaa.cbOk
  rw [h.alike h1 h2, inB_true.2 ⟨by omega, by omega⟩, decide_eq_true (show ((K : Int) ≤ (ss.length : Int)) by omega), decide_eq_true hn]
  rfl
/-- whatever shares of one split are alike, the first k of them give the secret -/
theorem cb_of {seed : Int} {K : Nat} {l : List UInt8} {ss : List Sh} (hof : ∀ j (hj : j < ss.length), OfSplit seed K l ss[j]) (hK : 1 ≤ K) (hok : cbOk ss (K : Int) = true) : cbR ss (K : Int) = l := by
  obtain ⟨h1, h2, h3, h4⟩ := cb_true hok
  have hk : K ≤ ss.length := by omega
  rw [cb_yes hok, lenS_of (fun j hj => (hof j hj).len) (by omega), Int.toNat_natCast]
  have hO := ok_of_alike h4
  exact split_zero hK hk (fun j hj _ => hof j hj) (fun a b ha hb _ _ e => hO.d a b ha hb e)
theorem Spl.cbR {seed : Int} {K : Nat} {l : List UInt8} {ss : List Sh} (h : Spl seed K l ss) (h1 : 1 ≤ l.length) (h2 : l.length ≤ 64) (hK : 1 ≤ K) (hKn : K ≤ ss.length) (hn : ss.length ≤ 12) : cbR ss (K : Int) = l :=
  cb_of h.of hK (h.cbOk h1 h2 hK hKn hn)
theorem Spl.ftOk {seed : Int} {K : Nat} {l : List UInt8} {ss : List Sh} (h : Spl seed K l ss) (h1 : 1 ≤ l.length) (h2 : l.length ≤ 64) (hK : 1 ≤ K) (hKn : K ≤ ss.length) (hn : ss.length ≤ 12) : ftOk ss (K : Int) = true := by
  unfold Proofs.Ytgkjgaijjihmgaa.ftOk
  rw [h.cbOk h1 h2 hK hKn hn, Int.toNat_natCast, fit_true fun s hs1 hs2 => ?_]
  · rfl
  · unfold fitAt
    rw [h.lenS (by omega), split_fit hK hKn h.of (fun a b ha hb _ _ e => h.d a b ha hb e) hs2, List.getElem?_eq_getElem hs2]
    simp
/-- the shares of a split -/
theorem spS_spl (seed : Int) (K n : Nat) (l : List UInt8) (hn : n ≤ 12) : Spl seed K l (spS seed K n l) := by
  refine ⟨fun j hj => spS_of seed K n l hn (List.getElem_mem hj), fun a b ha hb e => ?_⟩
  rw [spS_get, spS_get] at e
  simp only at e
  omega
/-- those from a place on -/
theorem Spl.drop {seed : Int} {K : Nat} {l : List UInt8} {ss : List Sh} (h : Spl seed K l ss) (t : Nat) : Spl seed K l (ss.drop t) := by
  refine ⟨fun j hj => ?_, fun a b ha hb e => ?_⟩
  · rw [List.getElem_drop]; exact h.of _ _
  · rw [List.getElem_drop, List.getElem_drop] at e
    have := h.d _ _ _ _ e
    omega
/-- i shares from place f on, round and round -/
def rotS (ss : List Sh) (f : Nat) : Nat → List Sh
  | 0 => []
  | i + 1 => rotS ss f i ++ [(ss[(f + i) % ss.length]?).getD (0, [])]
theorem rotS_length (ss : List Sh) (f i : Nat) : (rotS ss f i).length = i := by
  induction i with
  | zero => rfl
  | succ i ih => unfold rotS; simp [ih]
theorem rotS_get {ss : List Sh} {f i : Nat} (h0 : 0 < ss.length) : ∀ j (hj : j < (rotS ss f i).length), (rotS ss f i)[j] = ss[(f + j) % ss.length]'(Nat.mod_lt _ h0) := by
  induction i with
  | zero => intro j hj; exact absurd hj (by simp [rotS])
  | succ i ih =>
    intro j hj
    have hl := rotS_length ss f i
    have hj' : j < i + 1 := by rwa [rotS_length] at hj
    by_cases hji : j < i
    · have : (rotS ss f (i + 1))[j] = (rotS ss f i)[j]'(by omega) := by
        show (rotS ss f i ++ _)[j] = _
        exact List.getElem_append_left (by omega)
      rw [this, ih]
    · have e : j = i := by omega
      subst e
      have h2 : (rotS ss f (j + 1))[j]? = some ((ss[(f + j) % ss.length]?).getD (0, [])) := by
        show (rotS ss f j ++ [(ss[(f + j) % ss.length]?).getD (0, [])])[j]? = _
        rw [List.getElem?_append_right (by omega), hl, Nat.sub_self]; rfl
      obtain ⟨_, this⟩ := List.getElem?_eq_some_iff.1 h2
      rw [this, List.getElem?_eq_getElem (Nat.mod_lt _ h0)]
      rfl
theorem mod_ne {f a b n : Nat} (h : a < b) (hb : b < n + a) : (f + a) % n ≠ (f + b) % n := by
  intro e
  have h1 : ((f + b) - (f + a)) % n = 0 := Nat.sub_mod_eq_zero_of_mod_eq e.symm
  have h2 : (f + b) - (f + a) = b - a := by omega
  rw [h2, Nat.mod_eq_of_lt (by omega)] at h1
  omega
theorem Spl.rot {seed : Int} {K : Nat} {l : List UInt8} {ss : List Sh} (h : Spl seed K l ss) (h0 : 0 < ss.length) (f i : Nat) (hi : i ≤ ss.length) : Spl seed K l (rotS ss f i) := by
  refine ⟨fun j hj => ?_, fun a b ha hb e => ?_⟩
  · rw [rotS_get h0]; exact h.of _ _
  · rw [rotS_get h0, rotS_get h0] at e
    have hm := h.d _ _ _ _ e
    rw [rotS_length] at ha hb
    rcases Nat.lt_trichotomy a b with h1 | h1 | h1
    · exact absurd hm (mod_ne h1 (by omega))
    · exact h1
    · exact absurd hm.symm (mod_ne h1 (by omega))
/-- the share that is given next -/
def nxS (ss : List Sh) (f i : Nat) : Sh := (ss[(f + i) % ss.length]?).getD (0, [])
theorem nxS_eq {ss : List Sh} {f i : Nat} (h0 : 0 < ss.length) : nxS ss f i = ss[(f + i) % ss.length]'(Nat.mod_lt _ h0) := by
  unfold nxS
  rw [List.getElem?_eq_getElem (Nat.mod_lt _ h0)]
  rfl
theorem rotS_succ (ss : List Sh) (f i : Nat) : rotS ss f (i + 1) = rotS ss f i ++ [nxS ss f i] := rfl
theorem gv_bad {seed : Int} {K : Nat} {l : List UInt8} {ss : List Sh} {s : Sh} (h : Spl seed K l ss) (hs : OfSplit seed K l s) (h1 : 1 ≤ l.length) (h2 : l.length ≤ 64) (hK : K ≤ 12) (hn : ss.length < K) : gvBad (K : Int) ss s.1 s.2 = false := by
  unfold gvBad slOk
  rw [inB_true.2 ⟨by omega, by omega⟩, decide_eq_true (show ((ss.length : Int) < (K : Int)) by omega), h.alike h1 h2, hs.shOk h1 h2, hs.len]
  cases h3 : decide (0 < ss.length)
  · rfl
  · rw [h.lenS (of_decide_eq_true h3)]
    simp
theorem gv_more {seed : Int} {K : Nat} {l : List UInt8} {ss : List Sh} {f i : Nat} (h : Spl seed K l ss) (h1 : 1 ≤ l.length) (h2 : l.length ≤ 64) (hK : K ≤ 12) (hKn : K ≤ ss.length) (hi : i + 1 < K) (sum : Int) :
    gvCode (K : Int) sum (rotS ss f i) (nxS ss f i).1 (nxS ss f i).2 = 0 ∧ gvSh (K : Int) sum (rotS ss f i) (nxS ss f i).1 (nxS ss f i).2 = rotS ss f (i + 1) ∧ gvOut (K : Int) sum (rotS ss f i) (nxS ss f i).1 (nxS ss f i).2 = [] := by
  have h0 : 0 < ss.length := by omega
  have hr := h.rot h0 f i (by omega)
  have hr1 := h.rot h0 f (i + 1) (by omega)
  have hs : OfSplit seed K l (nxS ss f i) := by rw [nxS_eq h0]; exact h.of _ _
  have hb := gv_bad hr hs h1 h2 hK (by rw [rotS_length]; omega)
  have hd : gvDup (rotS ss f i) (nxS ss f i).1 = false := by
    unfold gvDup
    rw [List.any_eq_false]
    intro s hs e
    obtain ⟨j, hj, rfl⟩ := List.getElem_of_mem hs
    have e := beq_iff_eq.1 e
    rw [rotS_get h0, nxS_eq h0] at e
    rw [rotS_length] at hj
    exact mod_ne (f := f) hj (by omega) (h.d _ _ _ _ e)
  have hc : gvCode (K : Int) sum (rotS ss f i) (nxS ss f i).1 (nxS ss f i).2 = 0 := by
    unfold gvCode
    rw [hb, hd, rotS_length, if_neg (by decide), if_neg (by decide), if_pos (by omega)]
  refine ⟨hc, ?_, ?_⟩
  · unfold gvSh
    rw [hc, if_neg (by decide), if_pos rfl]
    exact (rotS_succ ss f i).symm
  · unfold gvOut
    rw [hc, if_neg (by decide)]
theorem gv_open {seed : Int} {K : Nat} {l : List UInt8} {ss : List Sh} {f i : Nat} (h : Spl seed K l ss) (h1 : 1 ≤ l.length) (h2 : l.length ≤ 64) (hK : K ≤ 12) (hKn : K ≤ ss.length) (hi : i + 1 = K) :
    gvCode (K : Int) (dig l) (rotS ss f i) (nxS ss f i).1 (nxS ss f i).2 = 1 ∧ gvSh (K : Int) (dig l) (rotS ss f i) (nxS ss f i).1 (nxS ss f i).2 = [] ∧ gvOut (K : Int) (dig l) (rotS ss f i) (nxS ss f i).1 (nxS ss f i).2 = l := by
  have h0 : 0 < ss.length := by omega
  have hr := h.rot h0 f i (by omega)
  have hr1 := h.rot h0 f (i + 1) (by omega)
  have hs : OfSplit seed K l (nxS ss f i) := by rw [nxS_eq h0]; exact h.of _ _
  have hb := gv_bad hr hs h1 h2 hK (by rw [rotS_length]; omega)
  have hd : gvDup (rotS ss f i) (nxS ss f i).1 = false := by
    unfold gvDup
    rw [List.any_eq_false]
    intro s hs e
    obtain ⟨j, hj, rfl⟩ := List.getElem_of_mem hs
    have e := beq_iff_eq.1 e
    rw [rotS_get h0, nxS_eq h0] at e
    rw [rotS_length] at hj
    exact mod_ne (f := f) hj (by omega) (h.d _ _ _ _ e)
  have hsec : gvSec (K : Int) (rotS ss f i) (nxS ss f i).1 (nxS ss f i).2 = l := by
    unfold gvSec
    have e : rotS ss f i ++ [((nxS ss f i).1, (nxS ss f i).2)] = rotS ss f (i + 1) := (rotS_succ ss f i).symm
    rw [e]
    exact hr1.cbR h1 h2 (by omega) (by rw [rotS_length]; omega) (by rw [rotS_length]; omega)
  have hc : gvCode (K : Int) (dig l) (rotS ss f i) (nxS ss f i).1 (nxS ss f i).2 = 1 := by
    unfold gvCode
    rw [hb, hd, rotS_length, if_neg (by decide), if_neg (by decide), if_neg (by omega), hsec, if_neg (by simp)]
  refine ⟨hc, ?_, ?_⟩
  · unfold gvSh
    rw [hc, if_neg (by decide), if_neg (by decide)]
  · unfold gvOut
    rw [hc, if_pos rfl, hsec]
theorem gv_twice {seed : Int} {K : Nat} {l : List UInt8} {ss : List Sh} {f i : Nat} (h : Spl seed K l ss) (h1 : 1 ≤ l.length) (h2 : l.length ≤ 64) (hK : K ≤ 12) (hKn : K ≤ ss.length) (hi : i + 1 < K) (sum : Int) :
    gvCode (K : Int) sum (rotS ss f (i + 1)) (nxS ss f i).1 (nxS ss f i).2 = 3 := by
  have h0 : 0 < ss.length := by omega
  have hr1 := h.rot h0 f (i + 1) (by omega)
  have hs : OfSplit seed K l (nxS ss f i) := by rw [nxS_eq h0]; exact h.of _ _
  have hb := gv_bad hr1 hs h1 h2 hK (by rw [rotS_length]; omega)
  have hd : gvDup (rotS ss f (i + 1)) (nxS ss f i).1 = true := by
    unfold gvDup
    rw [rotS_succ, List.any_append]
    simp
  unfold gvCode
  rw [hb, hd, if_neg (by decide), if_pos rfl]
/-- one byte of one share turned -/
def bendS (ss : List Sh) (i : Nat) (v : UInt8) : List Sh := ss.modify i fun s => (s.1, s.2.modify 0 (· ^^^ v))
theorem bendS_length (ss : List Sh) (i : Nat) (v : UInt8) : (bendS ss i v).length = ss.length := by simp [bendS]
theorem xN_bend (ss : List Sh) (i j : Nat) (v : UInt8) : xN (bendS ss i v) j = xN ss j := by
  unfold xN bendS
  rw [List.getElem?_modify]
  cases h : ss[j]? with
  | none => rfl
  | some s =>
    by_cases e : i = j <;> simp [e]
theorem dN_bend_ne {ss : List Sh} {i j p : Nat} {v : UInt8} (h : i ≠ j) : dN (bendS ss i v) j p = dN ss j p := by
  unfold dN bendS
  rw [List.getElem?_modify]
  cases hs : ss[j]? with
  | none => rfl
  | some s => simp [h]
theorem u8_xor_ne (a v : UInt8) (h : v ≠ 0) : (a ^^^ v).toNat ≠ a.toNat := by
  intro e
  apply h
  have e2 := UInt8.toNat_inj.1 e
  have : a ^^^ (a ^^^ v) = a ^^^ a := by rw [e2]
  rw [← UInt8.xor_assoc, UInt8.xor_self, UInt8.zero_xor] at this
  exact this
theorem bend_at {ss : List Sh} {i : Nat} {v : UInt8} (hi : i < ss.length) : (bendS ss i v)[i]? = some (ss[i].1, ss[i].2.modify 0 (· ^^^ v)) := by
  unfold bendS
  rw [List.getElem?_modify, List.getElem?_eq_getElem hi]
  simp
theorem dN_bend_eq {ss : List Sh} {i : Nat} {v : UInt8} (hi : i < ss.length) (hl : 0 < ss[i].2.length) (hv : v ≠ 0) : dN (bendS ss i v) i 0 ≠ dN ss i 0 := by
  unfold dN
  rw [bend_at hi, List.getElem?_eq_getElem hi]
  simp only [Option.map_some, Option.getD_some]
  have h1 : (ss[i].2.modify 0 (· ^^^ v))[0]? = some (ss[i].2[0] ^^^ v) := by
    rw [List.getElem?_modify, List.getElem?_eq_getElem hl]
    simp
  rw [h1, List.getElem?_eq_getElem hl]
  simp only [Option.getD_some]
  exact u8_xor_ne _ _ hv
theorem lenS_bend (ss : List Sh) (i : Nat) (v : UInt8) : lenS (bendS ss i v) = lenS ss := by
  unfold bendS
  cases ss with
  | nil => simp [lenS]
  | cons s ss =>
    cases i with
    | zero => simp [lenS]
    | succ i => simp [lenS]
theorem bendS_snd {ss : List Sh} {i j : Nat} {v : UInt8} (hj : j < (bendS ss i v).length) : ((bendS ss i v)[j]).2.length = (ss[j]'(by rwa [bendS_length] at hj)).2.length := by
  simp only [bendS, List.getElem_modify]
  by_cases e : i = j
  · subst e; simp
  · simp [e]
theorem bendS_fst {ss : List Sh} {i j : Nat} {v : UInt8} (hj : j < (bendS ss i v).length) : ((bendS ss i v)[j]).1 = (ss[j]'(by rwa [bendS_length] at hj)).1 := by
  simp only [bendS, List.getElem_modify]
  by_cases e : i = j
  · subst e; simp
  · simp [e]
/-- with one byte of one share turned they fit not -/
theorem Spl.bent {seed : Int} {K : Nat} {l : List UInt8} {ss : List Sh} (h : Spl seed K l ss) (h1 : 1 ≤ l.length) (h2 : l.length ≤ 64) (hK : 1 ≤ K) (hKn : K < ss.length) {i : Nat} (hi : i < ss.length) {v : UInt8} (hv : v ≠ 0) : Proofs.Ytgkjgaijjihmgaa.ftOk (bendS ss i v) (K : Int) = false := by
  have hX : ∀ j, j < K → xN (bendS ss i v) j < 256 := fun j hj => by
    rw [xN_bend]
    have := ((h.of j (by omega)).x (by omega)).2.1
    omega
  have hD : ∀ a b, a < ss.length → b < ss.length → xN (bendS ss i v) a = xN (bendS ss i v) b → a = b := fun a b ha hb e => by
    rw [xN_bend, xN_bend] at e
    refine h.d a b ha hb ?_
    have e1 := ((h.of a ha).x ha).2.2
    have e2 := ((h.of b hb).x hb).2.2
    rw [e1, e2, e]
  have hll : ss[i].2.length = l.length := (h.of i hi).len
  have hO : Ok (bendS ss i v) l.length := by
    refine ⟨fun j hj => ?_, fun a b ha hb e => ?_, fun j hj => ?_, h2⟩
    · have hj' : j < ss.length := by rwa [bendS_length] at hj
      rw [bendS_fst hj]
      have hx := (h.of j hj').x hj'
      rw [hx.2.2]
      exact ⟨by show (1 : Int) ≤ (xN ss j : Int); omega, by show (xN ss j : Int) ≤ 255; omega⟩
    · rw [bendS_fst ha, bendS_fst hb] at e
      exact h.d _ _ _ _ e
    · rw [bendS_snd hj]
      exact (h.of j _).len
  have hlen : l.length = Proofs.Ytgkjgaijjihmgaa.lenS (bendS ss i v) := by rw [lenS_bend, h.lenS (by omega)]
  have hq : ∀ j, j < ss.length → j ≠ i → fN (dN (bendS ss i v) j 0) = ev (poly seed K 0 (l[0]'(by omega))) (fN (xN (bendS ss i v) j)) := fun j hj hne => by
    rw [dN_bend_ne (fun e => hne e.symm), xN_bend]
    exact (h.of j hj).d hj hK (by omega)
  have hqi : fN (dN (bendS ss i v) i 0) ≠ ev (poly seed K 0 (l[0]'(by omega))) (fN (xN (bendS ss i v) i)) := fun e => by
    rw [xN_bend, ← (h.of i hi).d hi hK (show 0 < l.length by omega)] at e
    exact dN_bend_eq hi (by omega) hv (fN_inj (dN_lt _ _ _) (dN_lt _ _ _) e)
  unfold Proofs.Ytgkjgaijjihmgaa.ftOk
  rw [Int.toNat_natCast]
  have hb : fitB (bendS ss i v) K = false := by
    by_cases hiK : i < K
    · refine fit_false (s := K) (Nat.le_refl _) (by rw [bendS_length]; exact hKn) (fitAt_false (p := 0) hO hlen (by rw [bendS_length]; exact hKn) (by omega) ?_)
      have hv2 := vl_bent (bendS ss i v) K (xN (bendS ss i v) K) 0 i (poly seed K 0 (l[0]'(by omega))) (Nat.le_of_eq (poly_length _ _ _ _ hK))
        (by rw [xN_bend]; have := ((h.of K hKn).x hKn).2.1; omega) hX (fun a b ha hb e => hD a b (by omega) (by omega) e) hiK
        (fun j hj e => by have := hD j K (by omega) hKn e; omega) (fun j hj hne => hq j (by omega) hne) hqi
      intro e
      apply hv2
      rw [e, ← hq K hKn (by omega), fN_v (dN_lt _ _ _)]
    · refine fit_false (s := i) (by omega) (by rw [bendS_length]; exact hi) (fitAt_false (p := 0) hO hlen (by rw [bendS_length]; exact hi) (by omega) ?_)
      have hv2 := vl_ev (bendS ss i v) K (xN (bendS ss i v) i) 0 (poly seed K 0 (l[0]'(by omega))) (Nat.le_of_eq (poly_length _ _ _ _ hK))
        (by rw [xN_bend]; have := ((h.of i hi).x hi).2.1; omega) hX (fun a b ha hb e => hD a b (by omega) (by omega) e) (fun j hj => hq j (by omega) (by omega))
      intro e
      rw [hv2] at e
      apply hqi
      rw [← e]
      exact (F.ext' (by rw [fN_v (by rw [e]; exact dN_lt _ _ _)]))
  rw [hb, Bool.and_false]
end Go.Proofs.Ytgkjgaijjihmgaa
