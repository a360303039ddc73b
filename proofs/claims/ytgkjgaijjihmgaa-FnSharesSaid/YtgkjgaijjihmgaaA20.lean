/- Slices of shares: sizes and copies. -/
import Derived.Test.YtgkjgaijjihmgaaA19
namespace Go.Proofs.Ytgkjgaijjihmgaa
open Go.RowKit Gf
set_option maxRecDepth 100000
set_option maxHeartbeats 400000
/-- a number, bytes marked, the rest as it was -/
def MarkBP (v : Int) (lo hi : Nat) (A : Option Addr) (n : Nat) (xs : List Value) (w : World) (en : Ending) (w' : World) : Prop := en = .returned (.int .i64 v) ∧ Ow w' lo hi 5 1 A n xs ∧ Mk lo hi w w'
theorem markByteS_q (A : Option Addr) (n c : Nat) (l : List UInt8) (w : World) (lo hi : Nat) (k : Int) (hr : Ow w lo hi 5 1 A n (bC l)) (hk0 : 0 ≤ k) (hk1 : k ≤ 1099511627776) (hn : n ≤ 1099511627776) :
    Calls Try.prog 28 #[.slice A n c, .int .i64 k] w (MarkBP (k + n) lo hi A n (bC (markB k n)) w) :=
  (markByteS_c A n c l w lo hi k hr hk0 hk1 hn).mono fun _ _ ⟨h1, h2, _, h4⟩ => ⟨h1, h2, Mk.of_chg h4⟩
theorem cnt_len (ss : List Sh) : ss.length ≤ cntS ss := by
  induction ss with
  | nil => simp [cntS]
  | cons s ss ih => simp only [List.length_cons, cntS]; omega
theorem cnt_take (ss : List Sh) (k : Nat) (h : k ≤ ss.length) : k ≤ cntS (ss.take k) := by
  have := cnt_len (ss.take k)
  rw [List.length_take] at this
  omega
theorem szShareS_ok (A : Option Addr) (n c : Nat) (ss : List Sh) (w : World) (left : Int) (hr : ShR w w.heap.size A n ss) (h0 : (cntS ss : Int) ≤ left) (h1 : left ≤ 1099511627776) :
    Calls Try.prog 56 #[.slice A n c, .int .i64 left] w (RetV (.int .i64 (left - cntS ss)) w) := by
  have hn := hr.bd
  have hln := hr.1
  have hcl := cnt_len ss
  have HLN := hide hln
  rw [hln] at hcl
  clear hln
  go_enter Try.func56, Try.ntmps56
  go_wp2_with fail
  go_loopw [1, 5] (fun v i wr => ∃ k : Nat, k ≤ n ∧ i = .int .i64 k ∧ v = .int .i64 (left - n - ((cntS (ss.take k) : Int) - k)) ∧ Below w.heap.size w wr) (fun _ i _ => n - (intOf i).toNat)
  case atStart => exact ⟨0, by omega, rfl, by simp [cntS], Below.refl _ _⟩
  case round =>
    obtain ⟨k, hk, rfl, rfl, hB⟩ := hrel
    have hle := cntS_take_le ss k
    have hge := cnt_take ss k (by rw [HLN.out]; exact hk)
    by_cases hlt : k < n
    · obtain ⟨b, off, rfl, hblt, hl, Ak, ck, hx, hd, hrd⟩ := (hr.up hB).at_ hlt
      have hsu := cntS_take_succ hl
      have hle2 := cntS_take_le ss (k + 1)
      have hge2 := cnt_take ss (k + 1) (by rw [HLN.out]; omega)
      rw [hsu] at hle2 hge2
      have hrest : n - (k + 1) ≤ cntS ss - cntS (ss.take (k + 1)) := by
        have h1 := cntS_append (ss.take (k + 1)) (ss.drop (k + 1))
        rw [List.take_append_drop] at h1
        have h2 := cnt_len (ss.drop (k + 1))
        rw [List.length_drop, HLN.out] at h2
        omega
      rw [hsu] at hrest
      have HS := hide hsu
      have hb0 := hrd.bd
      clear hsu hrd
      go_wp2_with fail
      refine (szShare_ok ss[k].1 Ak _ ck _ _ (by omega) (by omega)).mono ?_
      rintro e w1 ⟨rfl, hb1⟩
      have hB1 := then_ hB hb1 hB.size
      clear hb1 hx hd
      go_wp2_with fail
      exact ⟨⟨k + 1, by omega, by go_num, by rw [HS.out]; exact int_eq (by omega), hB1⟩, by simp [intOf]; omega⟩
    · have HE : Hid (ss.take k = ss) := List.take_of_length_le (by rw [HLN.out]; omega)
      rw [HE.out] at hle hge
      rw [HE.out]
      go_wp2_with fail
      go_ret
      exact ⟨ret_int (by omega), hB⟩
theorem szShareS_no (A : Option Addr) (n c : Nat) (ss : List Sh) (w : World) (left : Int) (hr : ShR w w.heap.size A n ss) (h0 : left < (cntS ss : Int)) (h2 : 0 ≤ left) (h1 : left ≤ 1099511627776) :
    Calls Try.prog 56 #[.slice A n c, .int .i64 left] w (RetV (.int .i64 (-1)) w) := by
  have hn := hr.bd
  have hln := hr.1
  have HLN := hide hln
  clear hln
  by_cases hnl : (n : Int) ≤ left
  · go_enter Try.func56, Try.ntmps56
    go_wp2_with fail
    go_loopw [1, 5] (fun v i wr => ∃ k : Nat, k ≤ n ∧ i = .int .i64 k ∧ v = .int .i64 (left - n - ((cntS (ss.take k) : Int) - k)) ∧ 0 ≤ left - n - ((cntS (ss.take k) : Int) - k) ∧ Below w.heap.size w wr) (fun _ i _ => n - (intOf i).toNat)
    case atStart => exact ⟨0, by omega, rfl, by simp [cntS], by simp [cntS]; omega, Below.refl _ _⟩
    case round =>
      obtain ⟨k, hk, rfl, rfl, hpos, hB⟩ := hrel
      have hge := cnt_take ss k (by rw [HLN.out]; exact hk)
      by_cases hlt : k < n
      · obtain ⟨b, off, rfl, hblt, hl, Ak, ck, hx, hd, hrd⟩ := (hr.up hB).at_ hlt
        have hsu := cntS_take_succ hl
        have HS := hide hsu
        have hb0 := hrd.bd
        clear hsu hrd
        by_cases hfit : (ss[k].2.length : Int) ≤ left - n - ((cntS (ss.take k) : Int) - k)
        · go_wp2_with fail
          refine (szShare_ok ss[k].1 Ak _ ck _ _ hfit (by omega)).mono ?_
          rintro e w1 ⟨rfl, hb1⟩
          have hB1 := then_ hB hb1 hB.size
          clear hb1 hx hd
          go_wp2_with fail
          exact ⟨⟨k + 1, by omega, by go_num, by rw [HS.out]; exact int_eq (by omega), by rw [HS.out]; omega, hB1⟩, by simp [intOf]; omega⟩
        · go_wp2_with fail
          refine (szShare_no ss[k].1 Ak _ ck _ _ (by omega) (by omega) (by omega) hb0).mono ?_
          rintro e w1 ⟨rfl, hb1⟩
          have hB1 := then_ hB hb1 hB.size
          clear hb1 hx hd
          go_wp2_with fail
          go_ret
          exact ⟨rfl, hB1⟩
      · exfalso
        have HE : ss.take k = ss := List.take_of_length_le (by rw [HLN.out]; omega)
        rw [HE] at hpos
        omega
  · go_enter Try.func56, Try.ntmps56
    go_wp2_with fail
    go_ret
    exact ⟨rfl, Below.refl _ _⟩
theorem run_make_rowN {P : Program} (t e : TypeId) (i : TypeInfo) (z : Value) (ht : P.underlying t = some (.slice e)) (hi : P.info? e = some i) (hz : i.zero = some z)
    (kl kc : IntKind) (n c : Nat) (hnc : n ≤ c) (hbytes : i.bytes * c ≤ 281474976710656) (h63 : c ≤ 9223372036854775807) (w : World) :
    (Instr.makeSlice t (.int kl (n : Int)) (.int kc (c : Int))).run P w = .ok (.slice (some ⟨w.heap.size, 0, none⟩) n c) (w.alloc (.cells (madeCells z.cells (c * i.size)) e)) := by
  have hb : (i.bytes : Int) * (c : Int) ≤ 281474976710656 := by
    have h : ((i.bytes * c : Nat) : Int) ≤ 281474976710656 := by omega
    rwa [Int.natCast_mul] at h
  have hr := run_make (P := P) w t e i z ht hi hz kl kc n c (by omega) (by omega) hb (by omega)
  simp only [Int.toNat_natCast] at hr
  exact hr
theorem made_pairs (x y : Value) (n : Nat) : (madeCells #[x, y] (n * 2)).toList = (List.replicate n [x, y]).flatten := by
  induction n with
  | zero => simp [madeCells]
  | succ n ih =>
    have e : (madeCells #[x, y] ((n + 1) * 2)).toList = (madeCells #[x, y] (n * 2)).toList ++ [x, y] := by
      rw [show (n + 1) * 2 = n * 2 + 1 + 1 from by omega]
      simp only [madeCells, Array.toList_map, Array.toList_range, List.range_succ, List.map_append, List.map_cons, List.map_nil, List.append_assoc, List.cons_append, List.nil_append]
      congr 1
      have h1 : n * 2 % 2 = 0 := by omega
      have h2 : (n * 2 + 1) % 2 = 1 := by omega
      simp [h1, h2]
    rw [e, ih, List.replicate_succ', List.flatten_append]
    simp
theorem shC_zeros (n : Nat) : shC (List.replicate n (none, 0)) (List.replicate n (0, [])) = (List.replicate n [Value.int .i64 0, Value.slice none 0 0]).flatten := by
  induction n with
  | zero => rfl
  | succ n ih =>
    simp only [List.replicate_succ, List.flatten_cons, ← ih]
    rfl
theorem made_shares (w : World) (n : Nat) (hn : n ≤ 1099511627776) : ShO (w.alloc (.cells (madeCells #[.int .i64 0, .slice none 0 0] (n * 2)) 31)) w.heap.size 31 (some ⟨w.heap.size, 0, none⟩) n n (List.replicate n (none, 0)) (List.replicate n (0, [])) := by
  refine ⟨by simp, ?_, ?_, ?_⟩
  · have h := World.ownsRow_lit (e := 31) (size := 2) (base := w.heap.size) w (madeCells #[.int .i64 0, .slice none 0 0] (n * 2)) n (Nat.le_refl _) (by simp only [maxLen]; omega) (by rw [size_madeCells])
    rw [made_pairs, ← shC_zeros] at h
    exact h
  · intro k hk
    simp only [List.getElem_replicate]
    exact World.ownsRow_nil _ _ _ _
  · intro i j hi hj a b _ ha
    simp at ha
theorem fill_set' {α : Type} (l : List α) (k : Nat) (z : α) (h : k < l.length) : (fill l k z).set k l[k] = fill l (k + 1) z := fill_set l k z h
theorem toShareS_c (A : Option Addr) (n c : Nat) (ss : List Sh) (w : World) (hr : ShR w w.heap.size A n ss) (hn : n ≤ 1048576) (hd : ∀ k (h : k < ss.length), ss[k].2.length ≤ 1048576) :
    Calls Try.prog 63 #[.slice A n c] w (RetShs 31 n ss w) := by
  have hln := hr.1
  have HLN := hide hln
  have HDD := hide hd
  clear hln hd
  obtain ⟨i0, hi, hz, hsize, hby⟩ := info_parts info40
  have hmk : ∀ W : World, (Instr.makeSlice 26 (.int .i64 (n : Int)) (.int .i64 (n : Int))).run Try.prog W = .ok (.slice (some ⟨W.heap.size, 0, none⟩) n n) (W.alloc (.cells (madeCells #[.int .i64 0, .slice none 0 0] (n * 2)) 31)) := by
    intro W
    have := run_make_rowN (P := Try.prog) 26 31 i0 _ Try.underlying26 hi hz .i64 .i64 n n (Nat.le_refl _) (by rw [hby]; omega) (by omega) W
    rw [hsize] at this
    exact this
  have hmade := made_shares w n (by omega)
  have HMD := hide hmade
  clear hi hz hsize hby hmade
  go_enter Try.func63, Try.ntmps63
  go_wp2_with fail
  go_loopw [4] (fun i wr => ∃ (k : Nat) (hs : List (Option Addr × Nat)), k ≤ n ∧ i = .int .i64 k ∧ ShO wr w.heap.size 31 (some ⟨w.heap.size, 0, none⟩) n n hs (fill ss k (0, [])) ∧ Below w.heap.size w wr) (fun i _ => n - (intOf i).toNat)
  case atStart => exact ⟨0, _, by omega, rfl, by rw [fill_zero, HLN.out]; exact HMD.out, (by repeat (first | with_reducible exact Below.refl _ _ | with_reducible assumption | refine Below.alloc ?_ (by first | omega | (simp; done) | (simp; omega)) _ | refine Below.setCell ?_ (by first | omega | (simp; done) | (simp; omega)) _ | refine Below.drew ?_ | refine below_drewN ?_ _ | exact Below.refl _ _ | assumption))⟩
  case round =>
    obtain ⟨k, hs, hk, rfl, hO, hB⟩ := hrel
    by_cases hlt : k < n
    · obtain ⟨b, off, rfl, hblt, hl, Ak, ck, hx, hd, hrd⟩ := (hr.up hB).at_ hlt
      have HO := hide hO
      have hdl := HDD.out k hl
      have HF := hide (fill_set' ss k (0, []) hl)
      clear hO
      go_wp2_with fail
      refine (toShare_c ss[k].1 Ak _ ck ss[k].2 _ hrd hdl).mono ?_
      rintro e w1 ⟨A1, c1, rfl, hc1, ho1, hb1⟩
      have hsz := hB.size
      have h1 := HO.out.below hb1
      have hlen := shC_length h1.len
      rw [h1.ssn] at hlen
      have hf := h1.row.frozenAt
      obtain ⟨v0, hv0⟩ : ∃ v, w1.cell? ⟨w.heap.size, k * 2, none⟩ = some v := ⟨_, (h1.row.cellAt (k * 2) (by omega)).trans (List.getElem?_eq_getElem (by omega))⟩
      obtain ⟨v1, hv1⟩ : ∃ v, w1.cell? ⟨w.heap.size, k * 2 + 1, none⟩ = some v := ⟨_, (h1.row.cellAt (k * 2 + 1) (by omega)).trans (List.getElem?_eq_getElem (by omega))⟩
      have hP := HO.out.put (by omega) hsz hlt hb1 (s := ss[k]) ho1
      rw [HF.out] at hP
      have HP := hide hP
      have HB1 := hide (then_ hB hb1 hB.size)
      clear hlen hP hb1 ho1 h1 hx hd hrd
      go_wp2_with fail
      exact ⟨⟨k + 1, _, by omega, by go_num, HP.out, (HB1.out.setCell (Nat.le_refl _) _).setCell (Nat.le_refl _) _⟩, by simp [intOf]; omega⟩
    · have HE : Hid (fill ss k (0, []) = ss) := by
        have := fill_all ss (0, [])
        rw [show k = ss.length from by rw [HLN.out]; omega]
        exact this
      rw [HE.out] at hO
      go_wp2_with fail
      go_ret
      exact ⟨_, _, _, rfl, Nat.le_refl _, hO, hB⟩
end Go.Proofs.Ytgkjgaijjihmgaa
