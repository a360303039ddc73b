/- Combining shares: what the reference's functions give. -/
import Derived.Test.YtgkjgaijjihmgaaA25
namespace Go.Proofs.Ytgkjgaijjihmgaa
open Go.RowKit Gf
set_option maxRecDepth 100000
set_option maxHeartbeats 1000000
def RetB2 (l : List UInt8) (ok : Bool) (w : World) (en : Ending) (w' : World) : Prop :=
  ∃ A c, en = .returned (.tuple #[.slice A l.length c, .bool ok]) ∧ l.length ≤ c ∧ w'.ownsRow w.heap.size 5 1 (.slice A l.length c) l.length (bC l) ∧ Below w.heap.size w w'
def cbOk (ss : List Sh) (k : Int) : Bool := inB k 1 12 && decide (k ≤ ss.length) && decide (ss.length ≤ 12) && alikeB ss
def cbR (ss : List Sh) (k : Int) : List UInt8 := if cbOk ss k then accB ss k.toNat 0 (lenS ss) k.toNat else []
theorem cb_no {ss : List Sh} {k : Int} (h : cbOk ss k = false) : cbR ss k = [] := by unfold cbR; rw [h]; rfl
theorem cb_yes {ss : List Sh} {k : Int} (h : cbOk ss k = true) : cbR ss k = accB ss k.toNat 0 (lenS ss) k.toNat := by unfold cbR; rw [h]; rfl
theorem cb_cases {ss : List Sh} {k : Int} (h : cbOk ss k = false) : inB k 1 12 = false ∨ (inB k 1 12 = true ∧ (ss.length : Int) < k) ∨ (inB k 1 12 = true ∧ k ≤ ss.length ∧ (decide (ss.length ≤ 12) && alikeB ss) = false) := by
  unfold cbOk at h
  cases h1 : inB k 1 12
  · exact .inl rfl
  · right
    by_cases h2 : k ≤ ss.length
    · right
      rw [h1, decide_eq_true h2] at h
      exact ⟨rfl, h2, by simpa using h⟩
    · exact .inl ⟨rfl, by omega⟩
theorem cb_true {ss : List Sh} {k : Int} (h : cbOk ss k = true) : inB k 1 12 = true ∧ k ≤ ss.length ∧ ss.length ≤ 12 ∧ alikeB ss = true := by
  unfold cbOk at h
  rw [Bool.and_eq_true, Bool.and_eq_true, Bool.and_eq_true] at h
  exact ⟨h.1.1.1, of_decide_eq_true h.1.1.2, of_decide_eq_true h.1.2, h.2⟩
theorem cbR_len (ss : List Sh) (k : Int) : (cbR ss k).length ≤ 64 := by
  cases h : cbOk ss k
  · rw [cb_no h]; simp
  · rw [cb_yes h, accB_length]
    exact (ok_of_alike (cb_true h).2.2.2).L
theorem lenS_eq {ss : List Sh} {L : Nat} (h : Ok ss L) (h0 : 0 < ss.length) : ss[0].2.length = lenS ss := by
  cases ss with
  | nil => simp at h0
  | cons s ss => rfl
theorem CombineShares_s (A : Option Addr) (n c : Nat) (ss : List Sh) (k : Int) (w : World) (hr : ShR w w.heap.size A n ss) :
    Calls Try.prog 15 #[.slice A n c, .int .i64 k] w (RetB2 (cbR ss k) (cbOk ss k) w) := by
  have hln := hr.1
  subst hln
  have hbd := hr.bd
  cases hok : cbOk ss k
  · rw [cb_no hok]
    have hcs := cb_cases hok
    clear hok
    rcases hcs with h1 | ⟨h1, h2⟩ | ⟨h1, h2, h3⟩
    · go_enter Try.func15, Try.ntmps15
      go_wp2_with (go_at_call 38; refine (l01In_c _ _ _ _).mono ?_; rintro e w' ⟨rfl, rfl⟩)
      go_ret2
      exact ⟨_, _, rfl, Nat.le_refl _, World.ownsRow_nil _ _ _ _, (by repeat (first | with_reducible exact Below.refl _ _ | with_reducible assumption | refine Below.alloc ?_ (by first | omega | (simp; done) | (simp; omega)) _ | refine Below.setCell ?_ (by first | omega | (simp; done) | (simp; omega)) _ | refine Below.drew ?_ | refine below_drewN ?_ _ | exact Below.refl _ _ | assumption))⟩
    · go_enter Try.func15, Try.ntmps15
      go_wp2_with (go_at_call 38; refine (l01In_c _ _ _ _).mono ?_; rintro e w' ⟨rfl, rfl⟩)
      go_ret2
      exact ⟨_, _, rfl, Nat.le_refl _, World.ownsRow_nil _ _ _ _, (by repeat (first | with_reducible exact Below.refl _ _ | with_reducible assumption | refine Below.alloc ?_ (by first | omega | (simp; done) | (simp; omega)) _ | refine Below.setCell ?_ (by first | omega | (simp; done) | (simp; omega)) _ | refine Below.drew ?_ | refine below_drewN ?_ _ | exact Below.refl _ _ | assumption))⟩
    · have HC := hide (l03Shares_c A ss.length c ss)
      rw [h3] at HC
      clear h3
      go_enter Try.func15, Try.ntmps15
      go_wp2_with (go_at_call 38; refine (l01In_c _ _ _ _).mono ?_; rintro e w' ⟨rfl, rfl⟩)
      refine (HC.out _ (hr.up (by repeat (first | with_reducible exact Below.refl _ _ | with_reducible assumption | refine Below.alloc ?_ (by first | omega | (simp; done) | (simp; omega)) _ | refine Below.setCell ?_ (by first | omega | (simp; done) | (simp; omega)) _ | refine Below.drew ?_ | refine below_drewN ?_ _ | exact Below.refl _ _ | assumption)))).mono ?_
      rintro e w1 ⟨rfl, hb1⟩
      have hB : Below w.heap.size w w1 := then_ (by repeat (first | with_reducible exact Below.refl _ _ | with_reducible assumption | refine Below.alloc ?_ (by first | omega | (simp; done) | (simp; omega)) _ | refine Below.setCell ?_ (by first | omega | (simp; done) | (simp; omega)) _ | refine Below.drew ?_ | refine below_drewN ?_ _ | exact Below.refl _ _ | assumption)) hb1 (by first | omega | (simp; done) | (simp; omega))
      go_wp2_with fail
      go_ret2
      exact ⟨_, _, rfl, Nat.le_refl _, World.ownsRow_nil _ _ _ _, hB⟩
  · rw [cb_yes hok]
    obtain ⟨h1, h2, h3, h4⟩ := cb_true hok
    clear hok
    obtain ⟨k1, k2⟩ := inB_true.1 h1
    obtain ⟨K, rfl⟩ := Int.eq_ofNat_of_zero_le (show 0 ≤ k by omega)
    simp only [Int.toNat_natCast]
    have hOK := ok_of_alike h4
    have hl0 := lenS_eq hOK (by omega)
    have hL64 := hOK.L
    have HC := hide (l03Shares_c A ss.length c ss)
    rw [h4, decide_eq_true h3, Bool.and_true] at HC
    have HOK := hide hOK
    have hKn : K ≤ ss.length := by omega
    have hdK : decide (ss.length < K) = false := decide_eq_false (by omega)
    generalize lenS ss = L at *
    clear h4
    go_enter Try.func15, Try.ntmps15
    go_wp2_with (go_at_call 38; refine (l01In_c _ _ _ _).mono ?_; rintro e w' ⟨rfl, rfl⟩)
    refine (HC.out _ (hr.up (by repeat (first | with_reducible exact Below.refl _ _ | with_reducible assumption | refine Below.alloc ?_ (by first | omega | (simp; done) | (simp; omega)) _ | refine Below.setCell ?_ (by first | omega | (simp; done) | (simp; omega)) _ | refine Below.drew ?_ | refine below_drewN ?_ _ | exact Below.refl _ _ | assumption)))).mono ?_
    rintro e w1 ⟨rfl, hb1⟩
    have hB : Below w.heap.size w w1 := then_ (by repeat (first | with_reducible exact Below.refl _ _ | with_reducible assumption | refine Below.alloc ?_ (by first | omega | (simp; done) | (simp; omega)) _ | refine Below.setCell ?_ (by first | omega | (simp; done) | (simp; omega)) _ | refine Below.drew ?_ | refine below_drewN ?_ _ | exact Below.refl _ _ | assumption)) hb1 (by first | omega | (simp; done) | (simp; omega))
    have q0 : w1.ownsRow w.heap.size 5 1 (.slice (some ⟨w.heap.size, 0, none⟩) 0 0) 0 [] := own_keep (World.ownsRow_made w #[] 0 (Nat.le_refl _) (by omega) rfl) (fun a ha => by
      injection ha with ha
      subst ha
      exact hb1.block _ (by simp))
    clear hb1 h1
    go_wp2_with fail
    go_loopw [6, 7] (fun v iv wr => ∃ (i : Nat) (A' : Option Addr) (c' : Nat), i ≤ L ∧ iv = .int .i64 i ∧ v = .slice A' i c' ∧ i ≤ c' ∧ wr.ownsRow w.heap.size 5 1 (.slice A' i c') i (bC ((accB ss K 0 L K).take i)) ∧ Below w.heap.size w wr) (fun _ iv _ => L - (intOf iv).toNat)
    case atStart => exact ⟨0, _, _, by omega, rfl, rfl, Nat.le_refl _, q0, hB⟩
    case round =>
      obtain ⟨i, A', c', hi, rfl, rfl, hic, hown, hb⟩ := hrel
      have hr1 := hr.up hb
      obtain ⟨b, off, rfl, hblt, hl, A0, c0, _, hd, _⟩ := hr1.at_ (k := 0) (by omega)
      simp only [Nat.zero_mul, Nat.add_zero, hl0] at hd
      have n0 : (0 : Int) < (ss.length : Int) := by omega
      by_cases hil : i < L
      · have hla : i < (accB ss K 0 L K).length := by rw [accB_length]; exact hil
        have hvl := vl_lt ss K 0 i K
        have HG := hide (accB_get ss K 0 L K i hla)
        have HO := hide hown
        have HB := hide hb
        have HR := hide hr1
        clear hown hb hr1
        go_wp2_with fail
        refine (l03At_c _ _ c ss L K i 0 _ HR.out HOK.out hKn h3 hil (by omega)).mono ?_
        rintro e w2 ⟨rfl, hb2⟩
        have HO2 := hide (own_keep HO.out (fun a ha => hb2.block a.block (by have h := HO.out; subst ha; exact own_lt h)))
        have HB2 := hide (then_ HB.out hb2 HB.out.size)
        have hsz : w.heap.size ≤ w2.heap.size := HB2.out.size
        clear hb2 hd hblt
        go_wp2_with (at_builtin; refine wpList_push w2 rfl (.tmp 32) (.tmp 38) 22 rfl w.heap.size 5 _ 1 1 Try.underlying22 info5 rfl (by omega) A' i c' _ [.int .u8 ((vl ss K 0 i K : Nat) : Int)] rfl HO2.out rfl rfl (by simp [Value.oneCell']) (by omega) (by omega) hsz ?_; intro A'' c'' w3 hc3 hown3 hg3 _)
        rw [← HG.out, bC_succ hla] at hown3
        exact ⟨⟨i + 1, A'', c'', by omega, by go_num, rfl, hc3, hown3, HB2.out.trans (grown_below HO2.out hg3 hsz)⟩, by simp [intOf]; omega⟩
      · have hiE : i = L := by omega
        subst hiE
        have HE : Hid ((accB ss K 0 i K).take i = accB ss K 0 i K) := List.take_of_length_le (by rw [accB_length]; exact Nat.le_refl _)
        have HL := hide (accB_length ss K 0 i K)
        rw [HE.out] at hown
        have HO := hide hown
        have HB := hide hb
        clear hown hb hr1
        go_wp2_with fail
        go_ret2
        exact ⟨_, _, by rw [HL.out]; rfl, by rw [HL.out]; exact hic, by rw [HL.out]; exact HO.out, HB.out⟩
/-- share s lies on the polynomials of the first K -/
def fitAt (ss : List Sh) (K s : Nat) : Bool := accB ss K (xN ss s) (lenS ss) K == ((ss[s]?.map fun s : Sh => s.2).getD [])
def fitB (ss : List Sh) (K : Nat) : Bool := (List.range ss.length).all fun s => decide (s < K) || fitAt ss K s
def ftOk (ss : List Sh) (k : Int) : Bool := cbOk ss k && fitB ss k.toNat
theorem fit_true {ss : List Sh} {K : Nat} (h : ∀ s, K ≤ s → s < ss.length → fitAt ss K s = true) : fitB ss K = true := by
  unfold fitB
  rw [List.all_eq_true]
  intro s hs
  by_cases hK : s < K
  · rw [decide_eq_true hK]; rfl
  · rw [h s (by omega) (List.mem_range.1 hs), Bool.or_true]
theorem fit_false {ss : List Sh} {K s : Nat} (hK : K ≤ s) (hs : s < ss.length) (h : fitAt ss K s = false) : fitB ss K = false := by
  unfold fitB
  rw [List.all_eq_false]
  refine ⟨s, List.mem_range.2 hs, ?_⟩
  rw [h, decide_eq_false (by omega)]
  simp
theorem fitAt_true {ss : List Sh} {K s L : Nat} (hok : Ok ss L) (hL : L = lenS ss) (hs : s < ss.length) (h : ∀ p, p < L → vl ss K (xN ss s) p K = dN ss s p) : fitAt ss K s = true := by
  unfold fitAt
  rw [List.getElem?_eq_getElem hs, ← hL]
  simp only [Option.map_some, Option.getD_some, beq_iff_eq]
  have hl := hok.l s hs
  refine List.ext_getElem (by rw [accB_length, hl]) fun p h1 h2 => ?_
  apply UInt8.toNat_inj.1
  rw [accB_get, h p (by omega), dN_eq hs h2]
theorem fitAt_false {ss : List Sh} {K s p L : Nat} (hok : Ok ss L) (hL : L = lenS ss) (hs : s < ss.length) (hp : p < L) (h : vl ss K (xN ss s) p K ≠ dN ss s p) : fitAt ss K s = false := by
  unfold fitAt
  rw [List.getElem?_eq_getElem hs, ← hL]
  simp only [Option.map_some, Option.getD_some, beq_eq_false_iff_ne]
  intro e
  have hl := hok.l s hs
  apply h
  have h1 : p < (accB ss K (xN ss s) L K).length := by rw [accB_length]; exact hp
  rw [dN_eq hs (by omega), ← accB_get ss K (xN ss s) L K p h1]
  simp only [e]
end Go.Proofs.Ytgkjgaijjihmgaa
