/- Tags: what slices.Concat and the two tag functions give. -/
import Derived.Test.YtmebpmaldcogbaaA8
namespace Go.Proofs.Ytmebpmaldcogbaa
open Go.RowKit Gf
set_option maxRecDepth 100000
set_option maxHeartbeats 400000
abbrev Row := Option Addr × Nat × Nat × List UInt8
def rowC (L : List Row) : List Value := L.map fun x => .slice x.1 x.2.1 x.2.2.1
def rowN (L : List Row) : Nat := (L.map fun x => x.2.1).sum
def rowB (L : List Row) : List UInt8 := (L.map fun x => x.2.2.2).flatten
theorem rowC_length (L : List Row) : (rowC L).length = L.length := by simp [rowC]
theorem rowC_get {L : List Row} {k : Nat} (h : k < L.length) : (rowC L)[k]? = some (.slice L[k].1 L[k].2.1 L[k].2.2.1) := by simp [rowC, h]
theorem take_succ_r {α : Type} (l : List α) (k : Nat) (h : k < l.length) : l.take (k + 1) = l.take k ++ [l[k]] := by
  rw [List.take_succ_eq_append_getElem h]
theorem rowN_succ {L : List Row} {k : Nat} (h : k < L.length) : rowN (L.take (k + 1)) = rowN (L.take k) + L[k].2.1 := by
  rw [take_succ_r L k h]
  simp only [rowN, List.map_append, List.sum_append, List.map_cons, List.map_nil, List.sum_cons, List.sum_nil, Nat.add_zero]
theorem rowB_succ {L : List Row} {k : Nat} (h : k < L.length) : rowB (L.take (k + 1)) = rowB (L.take k) ++ L[k].2.2.2 := by
  rw [take_succ_r L k h]
  simp only [rowB, List.map_append, List.flatten_append, List.map_cons, List.map_nil, List.flatten_cons, List.flatten_nil, List.append_nil]
theorem rowN_le (L : List Row) (k : Nat) : rowN (L.take k) ≤ rowN L := by
  conv => rhs; rw [← List.take_append_drop k L]
  simp only [rowN, List.map_append, List.sum_append]
  omega
theorem Rd.row {w : World} {hi n : Nat} {A : Option Addr} {L : List Row} (h : Rd w hi 1 A n (rowC L)) {k : Nat} (hk : k < n) : ∃ b off, A = some ⟨b, off, none⟩ ∧ b < hi ∧ ∃ hl : k < L.length, w.cell? ⟨b, off + k, none⟩ = some (.slice L[k].1 L[k].2.1 L[k].2.2.1) := by
  obtain ⟨b, off, rfl, hb, hc⟩ := h.2.2 (by omega)
  have hl : k < L.length := by have := h.1; rw [rowC_length] at this; omega
  exact ⟨b, off, rfl, hb, hl, hc k _ (rowC_get hl)⟩
theorem Concat_c (R : Option Addr) (m c : Nat) (L : List Row) (w : World) (hr : Rd w w.heap.size 1 R m (rowC L)) (hL : ∀ k (h : k < L.length), Rd w w.heap.size 1 L[k].1 L[k].2.1 (bC L[k].2.2.2)) (hs : rowN L ≤ 1048576) :
    Calls Try.prog 153 #[.slice R m c] w (RetRow 5 1 (rowN L) (bC (rowB L)) w) := by
  have hln : Hid (L.length = m) := by have := hr.1; rw [rowC_length] at this; show L.length = m; omega
  have hm := hr.bd
  have HL := hide hL
  clear hL
  go_enter Try.func153, Try.ntmps153
  go_wp2_with fail
  go_loop [3, 11] (fun s i => ∃ k : Nat, k ≤ m ∧ s = .int .i64 (rowN (L.take k)) ∧ i = .int .i64 k) (fun _ i => m - (intOf i).toNat)
  case atStart => exact ⟨0, by omega, rfl, rfl⟩
  case round =>
    obtain ⟨k, hk, rfl, rfl⟩ := hrel
    have hle := rowN_le L k
    by_cases hlt : k < m
    · obtain ⟨b, off, rfl, _, hl, hc⟩ := hr.row hlt
      have HN := hide (rowN_succ hl)
      have hle2 := rowN_le L (k + 1)
      rw [HN.out] at hle2
      go_wp2
      go_round
      case rel => exact ⟨k + 1, by omega, by rw [HN.out]; simp, by go_num⟩
      case measure => simp [intOf]; omega
    · have HE : Hid (L.take k = L) := by have := hln.out; exact List.take_of_length_le (by omega)
      rw [HE.out]
      go_wp2_with fail
      refine (grow_c _ _ hs).mono ?_
      rintro e w1 ⟨A1, c1, rfl, hc1, hown1, hb1⟩
      go_wp2_with fail
      go_loopw [6, 27] (fun v i wr => ∃ k A' c', k ≤ m ∧ i = .int .i64 ((k : Nat) : Int) ∧ v = .slice A' (rowN (L.take k)) c' ∧ rowN (L.take k) ≤ c' ∧ wr.ownsRow w.heap.size 5 1 (.slice A' (rowN (L.take k)) c') (rowN (L.take k)) (bC (rowB (L.take k))) ∧ Below w.heap.size w wr) (fun _ i _ => m - (intOf i).toNat)
      case atStart => exact ⟨0, _, _, by omega, rfl, rfl, hc1, hown1, hb1⟩
      case round =>
        obtain ⟨k, A', c', hk, rfl, rfl, hkc, hown, hb⟩ := hrel
        have hle := rowN_le L k
        by_cases hlt : k < m
        · obtain ⟨b, off, rfl, hblt, hl, hc⟩ := (hr.below hb (Nat.le_refl _)).row hlt
          have HN := hide (rowN_succ hl)
          have HBB := hide (rowB_succ hl)
          have hle2 := rowN_le L (k + 1)
          rw [HN.out] at hle2
          have hsz := hb.size
          have HB := hide hb
          have HO := hide hown
          have hk1 := (HL.out k hl).below hb (Nat.le_refl _)
          clear hb hown hown1 hb1
          go_wp2_with (at_builtin; refine wpList_app wr rfl (.tmp 31) (.tmp 32) 25 rfl w.heap.size 5 _ 1 1 Try.underlying25 info5 rfl (by omega) A' (rowN (L.take k)) c' _ rfl HO.out L[k].1 L[k].2.1 L[k].2.2.1 _ _ rfl hk1 (bC_one _) (by omega) (by omega) hsz ?_; intro A'' c'' w1 hc1 hown1 hg1 _)
          rw [← bC_append, ← HBB.out, ← HN.out] at hown1
          exact ⟨⟨k + 1, A'', c'', by omega, by go_num, by rw [HN.out], by rw [HN.out]; exact hc1, hown1, HB.out.trans (grown_below HO.out hg1 hsz)⟩, by simp [intOf]; omega⟩
        · have HE : Hid (L.take k = L) := by have := hln.out; exact List.take_of_length_le (by omega)
          rw [HE.out] at hown hkc
          have HB := hide hb
          have HO := hide hown
          clear hb hown hown1 hb1
          go_wp2
          go_ret
          exact ⟨_, _, by rw [HE.out]; rfl, hkc, HO.out, HB.out⟩
def tagB (a b : Int) (l : List UInt8) : Int := dig (pwB a ++ (pwB b ++ l))
theorem tagOf_c (a b : Int) (A : Option Addr) (n c : Nat) (l : List UInt8) (w : World) (ha0 : 0 ≤ a) (ha : a ≤ 1099511627776) (hb0 : 0 ≤ b) (hb : b ≤ 1099511627776) (hr : Rd w w.heap.size 1 A n (bC l)) (hn : n ≤ 2000) :
    Calls Try.prog 133 #[.int .i64 a, .int .i64 b, .slice A n c] w (RetV (.int .i64 (tagB a b l)) w) := by
  have hln := hr.bn
  go_enter Try.func133, Try.ntmps133
  go_wp2_with fail
  refine (putWide_c a _ ha0 ha).mono ?_
  rintro e w1 ⟨A1, c1, rfl, hc1, ho1, hb1⟩
  go_wp2_with fail
  refine (putWide_c b _ hb0 hb).mono ?_
  rintro e w2 ⟨A2, c2, rfl, hc2, ho2, hb2⟩
  have hB := then_ hb1 hb2 hb1.size
  have r1 := (own_rd ho1).up hb2
  have r2 := own_rd ho2
  have r3 := hr.up hB
  clear ho1 ho2
  go_wp2_with fail
  have La := Blk.new w2 25 #[.slice A1 8 c1, .slice A2 8 c2, .slice A n c]
  refine (Concat_c _ 3 3 [(A1, 8, c1, pwB a), (A2, 8, c2, pwB b), (A, n, c, l)] _ ?_ ?_ ?_).mono ?_
  · refine ⟨rfl, by omega, fun _ => ⟨w2.heap.size, 0, rfl, by simp, ?_⟩⟩
    intro j u hu
    rw [Nat.zero_add, La.cell j]
    simpa [rowC] using hu
  · intro k hk
    have hk3 : k < 3 := hk
    have hs : ∀ {A0 : Option Addr} {n0 : Nat} {xs : List Value}, Rd w2 w2.heap.size 1 A0 n0 xs → Rd (w2.alloc (.cells #[.slice A1 8 c1, .slice A2 8 c2, .slice A n c] 25)) (w2.alloc (.cells #[.slice A1 8 c1, .slice A2 8 c2, .slice A n c] 25)).heap.size 1 A0 n0 xs := fun h => h.up ((Below.refl _ _).alloc (Nat.le_refl _) _)
    match k, hk3 with
    | 0, _ => exact hs r1
    | 1, _ => exact hs r2
    | 2, _ => exact hs r3
  · simp [rowN]; omega
  rintro e w3 ⟨A3, c3, rfl, hc3, ho3, hb3⟩
  have hz := hB.size
  have hB3 : Below w.heap.size w w3 := then_ (by repeat (first | exact Below.refl _ _ | assumption | refine Below.alloc ?_ (by first | omega | (simp; done) | (simp; omega)) _ | refine Below.setCell ?_ (by first | omega | (simp; done) | (simp; omega)) _ | refine Below.drew ?_ | refine below_drewN ?_ _)) hb3 (by first | omega | (simp; done) | (simp; omega))
  go_wp2_with fail
  refine (digest_c A3 _ c3 _ _ _ (own_rd ho3)).mono ?_
  rintro e w4 ⟨rfl, rfl⟩
  go_wp2_with fail
  go_ret
  refine ⟨?_, hB3⟩
  simp [rowB, tagB]
def tagOk (a b : Int) (n : Nat) : Bool := inB a 0 1099511627776 && inB b 0 1099511627776 && decide (n ≤ 2000)
def tag_ (a b : Int) (l : List UInt8) : Int := if tagOk a b l.length then tagB a b l else -1
theorem TagOf_i (a b : Int) (A : Option Addr) (n c : Nat) (l : List UInt8) (w : World) (hr : Rd w w.heap.size 1 A n (bC l)) :
    Calls Try.prog 64 #[.int .i64 a, .int .i64 b, .slice A n c] w (RetV (.int .i64 (tag_ a b l)) w) := by
  have hln := hr.bn
  have hbd := hr.bd
  subst hln
  cases h1 : inB a 0 1099511627776
  · have HE : Hid (tag_ a b l = -1) := by show tag_ a b l = -1; simp [tag_, tagOk, h1]
    go_enter Try.func64, Try.ntmps64
    go_wp2_with (go_at_call 123; refine (isKey_c _ _).mono ?_; rintro e w' ⟨rfl, rfl⟩)
    go_ret
    exact ⟨ret_int HE.out.symm, Below.refl _ _⟩
  cases h2 : inB b 0 1099511627776
  · have HE : Hid (tag_ a b l = -1) := by show tag_ a b l = -1; simp [tag_, tagOk, h2]
    go_enter Try.func64, Try.ntmps64
    go_wp2_with (go_at_call 123; refine (isKey_c _ _).mono ?_; rintro e w' ⟨rfl, rfl⟩)
    go_ret
    exact ⟨ret_int HE.out.symm, Below.refl _ _⟩
  by_cases h3 : l.length ≤ 2000
  · have HE : Hid (tag_ a b l = tagB a b l) := by show tag_ a b l = tagB a b l; simp [tag_, tagOk, h1, h2, h3]
    obtain ⟨ha0, ha⟩ := inB_true.1 h1
    obtain ⟨hb0, hb⟩ := inB_true.1 h2
    go_enter Try.func64, Try.ntmps64
    go_wp2_with (first | (go_at_call 123; refine (isKey_c _ _).mono ?_; rintro e w' ⟨rfl, rfl⟩) | (go_at_call 133; refine (tagOf_c a b A _ c l _ ha0 ha hb0 hb hr h3).mono ?_; rintro e w' ⟨rfl, hb1⟩))
    go_ret
    exact ⟨ret_int HE.out.symm, hb1⟩
  · have HE : Hid (tag_ a b l = -1) := by show tag_ a b l = -1; simp [tag_, tagOk, h3]
    go_enter Try.func64, Try.ntmps64
    go_wp2_with (go_at_call 123; refine (isKey_c _ _).mono ?_; rintro e w' ⟨rfl, rfl⟩)
    go_ret
    exact ⟨ret_int HE.out.symm, Below.refl _ _⟩
theorem TagOf_s (a b : Int) (A : Option Addr) (n c : Nat) (l : List UInt8) (w : World) (hr : Rd w w.heap.size 1 A n (bC l)) :
    Calls Try.prog 63 #[.int .i64 a, .int .i64 b, .slice A n c] w (RetV (.int .i64 (tag_ a b l)) w) := by
  have hln := hr.bn
  have hbd := hr.bd
  subst hln
  cases h1 : inB a 0 1099511627776
  · have HE : Hid (tag_ a b l = -1) := by show tag_ a b l = -1; simp [tag_, tagOk, h1]
    go_enter Try.func63, Try.ntmps63
    go_wp2_with (go_at_call 122; refine (l04Key_c _ _).mono ?_; rintro e w' ⟨rfl, rfl⟩)
    go_ret
    exact ⟨ret_int HE.out.symm, Below.refl _ _⟩
  cases h2 : inB b 0 1099511627776
  · have HE : Hid (tag_ a b l = -1) := by show tag_ a b l = -1; simp [tag_, tagOk, h2]
    go_enter Try.func63, Try.ntmps63
    go_wp2_with (go_at_call 122; refine (l04Key_c _ _).mono ?_; rintro e w' ⟨rfl, rfl⟩)
    go_ret
    exact ⟨ret_int HE.out.symm, Below.refl _ _⟩
  by_cases h3 : l.length ≤ 2000
  · have HE : Hid (tag_ a b l = tagB a b l) := by show tag_ a b l = tagB a b l; simp [tag_, tagOk, h1, h2, h3]
    have hpa : pw_ a = pwB a := by simp [pw_, h1]
    have hpb : pw_ b = pwB b := by simp [pw_, h2]
    have la := pwB_length a
    have lb := pwB_length b
    go_enter Try.func63, Try.ntmps63
    go_wp2_with (go_at_call 122; refine (l04Key_c _ _).mono ?_; rintro e w' ⟨rfl, rfl⟩)
    refine (PutWide_s a _).mono ?_
    rw [hpa]
    rintro e w1 ⟨A1, c1, rfl, hc1, ho1, hb1⟩
    rw [la] at hc1 ho1 ⊢
    go_wp2_with fail
    refine (PutWide_s b _).mono ?_
    rw [hpb]
    rintro e w2 ⟨A2, c2, rfl, hc2, ho2, hb2⟩
    rw [lb] at hc2 ho2 ⊢
    have hB := then_ hb1 hb2 hb1.size
    have r1 := (own_rd ho1).up hb2
    have r2 := own_rd ho2
    clear ho1 ho2 hb1 hb2
    go_wp2_with fail
    refine (l01Join_c A1 A2 8 c1 8 c2 _ _ _ r1 r2 (by omega) (by omega)).mono ?_
    rintro e w3 ⟨A3, c3, rfl, hc3, ho3, hb3⟩
    have hB3 := then_ hB hb3 hB.size
    have r3 := own_rd ho3
    clear ho3 hb3 hB
    go_wp2_with fail
    refine (l01Join_c A3 A _ c3 _ c _ _ _ r3 (hr.up hB3) (by omega) (by omega)).mono ?_
    rintro e w4 ⟨A4, c4, rfl, hc4, ho4, hb4⟩
    have hB4 := then_ hB3 hb4 hB3.size
    go_wp2_with fail
    refine (Digest_s A4 _ c4 _ _ _ (own_rd ho4)).mono ?_
    rintro e w5 ⟨rfl, rfl⟩
    go_wp2_with fail
    go_ret
    exact ⟨ret_int (by rw [HE.out, tagB]), hB4⟩
  · have HE : Hid (tag_ a b l = -1) := by show tag_ a b l = -1; simp [tag_, tagOk, h3]
    go_enter Try.func63, Try.ntmps63
    go_wp2_with (go_at_call 122; refine (l04Key_c _ _).mono ?_; rintro e w' ⟨rfl, rfl⟩)
    go_ret
    exact ⟨ret_int HE.out.symm, Below.refl _ _⟩
end Go.Proofs.Ytmebpmaldcogbaa
