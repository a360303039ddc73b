/- The value of shares at a place: what the reference's function gives. -/
import Derived.Test.YtgkjgaijjihmgaaA21
import Derived.Test.YtgkjgaijjihmgaaP2
import Derived.Test.YtgkjgaijjihmgaaMem8
namespace Go.Proofs.Ytgkjgaijjihmgaa
open Go.RowKit Gf
set_option maxRecDepth 100000
set_option maxHeartbeats 1000000
/-- shares that are alike -/
structure Ok (ss : List Sh) (L : Nat) : Prop where
  x : ∀ j (h : j < ss.length), 1 ≤ ss[j].1 ∧ ss[j].1 ≤ 255
  d : ∀ i j (hi : i < ss.length) (hj : j < ss.length), ss[i].1 = ss[j].1 → i = j
  l : ∀ j (h : j < ss.length), ss[j].2.length = L
  L : L ≤ 64
def lenS (ss : List Sh) : Nat := match ss with
  | [] => 0
  | s :: _ => s.2.length
theorem ok_of_alike {ss : List Sh} (h : alikeB ss = true) : Ok ss (lenS ss) := by
  unfold alikeB at h
  rw [List.all_eq_true] at h
  have key : ∀ j (hj : j < ss.length), shOk ss[j].1 ss[j].2.length = true ∧ ss[j].2.length = lenS ss ∧ dupA ss j = false := by
    intro j hj
    have h1 := h j (List.mem_range.2 hj)
    rw [Bool.and_eq_true, good_eq hj, Bool.and_eq_true] at h1
    refine ⟨h1.1.1, ?_, by simpa using h1.2⟩
    have h2 := h1.1.2
    cases ss with
    | nil => simp at hj
    | cons s ss => simpa [lenS] using h2
  have hx : ∀ j (hj : j < ss.length), (1 ≤ ss[j].1 ∧ ss[j].1 ≤ 255) ∧ ss[j].2.length ≤ 64 := by
    intro j hj
    have h1 := (key j hj).1
    unfold shOk at h1
    rw [Bool.and_eq_true] at h1
    have h2 := inB_true.1 h1.2
    exact ⟨inB_true.1 h1.1, by omega⟩
  have lt : ∀ i j (hi : i < ss.length) (hj : j < ss.length), i < j → ss[i].1 ≠ ss[j].1 := by
    intro i j hi hj hij e
    have := (key j hj).2.2
    rw [dup_true hij hj e] at this
    cases this
  refine ⟨fun j hj => (hx j hj).1, fun i j hi hj e => ?_, fun j hj => (key j hj).2.1, ?_⟩
  · rcases Nat.lt_trichotomy i j with h1 | h1 | h1
    · exact absurd e (lt i j hi hj h1)
    · exact h1
    · exact absurd e.symm (lt j i hj hi h1)
  · cases ss with
    | nil => simp [lenS]
    | cons s ss => exact (hx 0 (by simp)).2
theorem gmul_nat {a b : Nat} (ha : a < 256) (hb : b < 256) : gmul (a : Int) (b : Int) = ((gm a b : Nat) : Int) := by
  unfold gmul
  rw [if_pos ⟨by omega, by omega, by omega, by omega⟩]
  rfl
theorem ginv_nat {a : Nat} (h0 : a ≠ 0) (ha : a < 256) : ginv (a : Int) = ((gi a : Nat) : Int) := by
  unfold ginv
  rw [if_pos ⟨by omega, by omega⟩]
  rfl
theorem xor_ne {a b : Nat} (h : a ≠ b) : a ^^^ b ≠ 0 := fun e => h (by
  have := xor_cancel a b
  rwa [e, Nat.xor_zero] at this)
theorem Ok.n {ss : List Sh} {L : Nat} (h : Ok ss L) {j : Nat} (hj : j < ss.length) : ss[j].1 = (xN ss j : Int) ∧ xN ss j < 256 ∧ 1 ≤ xN ss j := by
  have h1 := h.x j hj
  have h2 := xN_eq hj (by omega)
  exact ⟨h2, by omega, by omega⟩
theorem Ok.ne {ss : List Sh} {L : Nat} (h : Ok ss L) {i j : Nat} (hi : i < ss.length) (hj : j < ss.length) (hne : i ≠ j) : xN ss i ≠ xN ss j := by
  intro e
  refine hne (h.d i j hi hj ?_)
  rw [(h.n hi).1, (h.n hj).1, e]
theorem at_step {ss : List Sh} {L : Nat} (h : Ok ss L) {x i j p : Nat} (hx : x < 256) (hi : i < ss.length) (hj : j < ss.length) (hne : j ≠ i) :
    gmul ((trm ss x i p j : Nat) : Int) (gmul (bits .xor .i64 (x : Int) ss[j].1) (ginv (bits .xor .i64 ss[i].1 ss[j].1))) = ((trm ss x i p (j + 1) : Nat) : Int) := by
  obtain ⟨e1, a1, _⟩ := h.n hi
  obtain ⟨e2, a2, _⟩ := h.n hj
  have hxx := xor_lt hx a2
  have hxy := xor_lt a1 a2
  have ht := trm_lt ss x i p j
  rw [e1, e2, i64_xor_nat _ _ (by omega) (by omega), i64_xor_nat _ _ (by omega) (by omega), ginv_nat (xor_ne (h.ne hi hj (Ne.symm hne))) hxy, gmul_nat hxx gi_lt, gmul_nat ht (gm_lt _ hxx), trm, if_neg hne]
theorem at_sum {ss : List Sh} {K x p i : Nat} (hx : x < 256) (hX : ∀ j, j < K → xN ss j < 256) : bits .xor .i64 ((vl ss K x p i : Nat) : Int) ((trm ss x i p K : Nat) : Int) = ((vl ss K x p (i + 1) : Nat) : Int) := by
  have h1 := vl_lt ss K x p i
  have h2 := trm_lt ss x i p K
  rw [i64_xor_nat _ _ (by omega) (by omega), trm_eq ss x i p K hx hX]
  rfl
theorem quiet_pure' {P : Program} {f : FuncId} {args : Array Value} {w : World} {n : Nat} {v : Value} (h : Calls P f args (w.drewN n) (Pure v (w.drewN n))) : Calls P f args (w.drewN n) fun e w'' => e = .returned v ∧ ∃ m, w'' = w.drewN m :=
  h.mono fun _ _ ⟨he, hm⟩ => ⟨he, n, hm.symm⟩
theorem l03At_c (A : Option Addr) (n c : Nat) (ss : List Sh) (L K p x : Nat) (w : World) (hr : ShR w w.heap.size A n ss) (hok : Ok ss L) (hK : K ≤ n) (hn12 : n ≤ 12) (hp : p < L) (hx : x < 256) :
    Calls Try.prog 49 #[.slice A n c, .int .i64 K, .int .i64 p, .int .i64 x] w (RetV (.int .i64 ((vl ss K x p K : Nat) : Int)) w) := by
  have hln := hide hr.1
  have HOK := hide hok
  have hL := hok.L
  have hX : Hid (∀ j, j < K → xN ss j < 256) := fun j hj => (hok.n (by have := hln.out; omega)).2.1
  clear hok
  go_enter Try.func49, Try.ntmps49
  go_wp2_with fail
  go_loopw [9, 10, 11, 12] (fun sv iv _ _ wr => ∃ i : Nat, i ≤ K ∧ iv = .int .i64 i ∧ sv = .int .i64 ((vl ss K x p i : Nat) : Int) ∧ Below w.heap.size w wr) (fun _ iv _ _ _ => K - (intOf iv).toNat)
  case atStart => exact ⟨0, by omega, rfl, rfl, Below.refl _ _⟩
  case round =>
    obtain ⟨i, hi, rfl, rfl, hB⟩ := hrel
    obtain ⟨wo, rfl⟩ : ∃ wo : World, wo = wr := ⟨_, rfl⟩
    by_cases hiK : i < K
    · have hr1 := hr.up hB
      obtain ⟨b, off, rfl, hblt, hl, Ak, ck, hxc, hd, hrd⟩ := hr1.at_ (k := i) (by omega)
      have hlL := HOK.out.l i hl
      have hpl : p < ss[i].2.length := by omega
      obtain ⟨bd, offd, rfl, hbd, hl2, hcd⟩ := hrd.byte hpl
      have hdN := dN_eq hl hpl
      have hd256 := ss[i].2[p].toNat_lt
      rw [← hdN] at hcd hd256
      have HLL := hide hlL
      have hvl := vl_lt ss K x p i
      have hplI : (p : Int) < (ss[i].2.length : Int) := by omega
      clear hlL hrd hdN hl2
      go_wp2_with fail
      have HB := hide hB
      clear hB hxc hd hcd hr1 hbd hblt
      go_loopw [11, 12] (fun tv jv wr => ∃ j : Nat, j ≤ K ∧ jv = .int .i64 j ∧ tv = .int .i64 ((trm ss x i p j : Nat) : Int) ∧ Below wo.heap.size wo wr) (fun _ jv _ => K - (intOf jv).toNat)
      case atStart => exact ⟨0, by omega, rfl, rfl, Below.refl _ _⟩
      case round =>
        obtain ⟨j, hj, rfl, rfl, hB⟩ := hrel
        have htl := trm_lt ss x i p j
        by_cases hjK : j < K
        · by_cases hji : j = i
          · subst hji
            have HT : Hid (trm ss x j p (j + 1) = trm ss x j p j) := by show trm ss x j p (j + 1) = _; rw [trm, if_pos rfl]
            go_wp2_with fail
            exact ⟨⟨j + 1, by omega, by go_num, by rw [HT.out], hB⟩, by simp [intOf]; omega⟩
          · have hne : ((j : Int) != (i : Int)) = true := by simp; omega
            have hr2 := (hr.up HB.out).up hB
            obtain ⟨b1, off1, e, hb1, hl1, A1, c1, hx1, _, _⟩ := hr2.at_ (k := i) (by omega)
            injection e with e
            injection e with e1 e2
            subst e1; subst e2
            obtain ⟨b1, off1, e, _, hl2, A2, c2, hx2, _, _⟩ := hr2.at_ (k := j) (by omega)
            injection e with e
            injection e with e1 e2
            subst e1; subst e2
            have HT := hide (at_step HOK.out (p := p) hx hl1 hl2 hji)
            have j0 : (0 : Int) ≤ (j : Int) := by omega
            have j1 : (j : Int) < (n : Int) := by omega
            have i0 : (0 : Int) ≤ (i : Int) := by omega
            have i1 : (i : Int) < (n : Int) := by omega
            clear hr2
            go_wp2_with fail
            go_quiet ((first | (go_at_call 72; exact quiet_pure' (GInv_s _ _)) | (go_at_call 39; exact quiet_pure' (GMul_s _ _ _))))
            go_wp2_with fail
            exact ⟨⟨j + 1, by omega, by go_num, by rw [HT.out], below_drewN hB _⟩, by simp [intOf]; omega⟩
        · have hjE : j = K := by omega
          subst hjE
          have HS := hide (at_sum (ss := ss) (p := p) (i := i) hx hX.out)
          have hB2 := then_ HB.out hB HB.out.size
          go_wp2_with fail
          exact ⟨⟨i + 1, by omega, by go_num, by rw [HS.out], hB2⟩, by simp [intOf]; omega⟩
    · have hiE : i = K := by omega
      subst hiE
      go_wp2_with fail
      go_ret
      exact ⟨rfl, hB⟩
end Go.Proofs.Ytgkjgaijjihmgaa
