/- Copies of bytes and of shares. -/
import Derived.Test.YtgkjgaijjihmgaaA20
import Derived.Test.YtgkjgaijjihmgaaA3
import Derived.Test.YtgkjgaijjihmgaaA11
import Derived.Test.YtgkjgaijjihmgaaMem9
import Derived.WalkSpells
import Derived.Deep.RegionHeld3
namespace Go.Proofs.Ytgkjgaijjihmgaa
open Go.RowKit Gf
set_option maxRecDepth 100000
set_option maxHeartbeats 400000
theorem cloneBytes_c (A : Option Addr) (n c : Nat) (l : List UInt8) (w : World) (hr : Rd w w.heap.size 1 A n (bC l)) (hn : n ≤ 1099511627776) :
    Calls Try.prog 73 #[.slice A n c] w (RetRow 5 1 n (bC l) w) := by
  have hln := hr.bn
  cases A with
  | none =>
    have h0 := hr.nil_len
    subst h0
    have hl0 : l = [] := List.eq_nil_of_length_eq_zero hln
    subst hl0
    clear hln
    have hq := fun (W : World) => Lib.run_eql_slice_nil (P := Try.prog) W 22 5 none 0 c 0 0 Try.underlying22
    simp only [Option.isNone_none] at hq
    go_enter Try.func73, Try.ntmps73
    go_wp2_with fail
    go_ret
    exact ⟨_, _, rfl, Nat.le_refl _, World.ownsRow_nil _ _ _ _, Below.refl _ _⟩
  | some a =>
    have hq := fun (W : World) => Lib.run_eql_slice_nil (P := Try.prog) W 22 5 (some a) n c 0 0 Try.underlying22
    simp only [Option.isNone_some] at hq
    have HL := hide hln
    clear hln
    go_enter Try.func73, Try.ntmps73
    go_wp2_with (at_builtin; refine wpList_app _ rfl (.tmp 5) (.tmp 6) 22 rfl w.heap.size 5 _ 1 1 Try.underlying22 info5 rfl (by omega) _ 0 0 [] rfl (World.ownsRow_made w #[] 0 (Nat.le_refl _) (by omega) rfl) (some a) n c _ (bC l) rfl (hr.up ((Below.refl _ _).alloc (Nat.le_refl _) _)) (bC_one _) (by omega) (by omega) (by simp) ?_; intro A1 c1 w1 hc1 hown1 hg1 _)
    go_ret
    rw [Nat.zero_add, List.nil_append] at hown1
    rw [Nat.zero_add] at hc1
    refine ⟨A1, c1, rfl, hc1, hown1, ?_⟩
    refine Below.grown ((Below.refl _ _).alloc (Nat.le_refl _) _) hg1 (by simp) ?_
    intro k hk
    simp [Value.ownBlock] at hk
    omega
theorem l03Copy_c (A : Option Addr) (n c : Nat) (ss : List Sh) (w : World) (hr : ShR w w.heap.size A n ss) (hn : n ≤ 1048576) (hd : ∀ k (h : k < ss.length), ss[k].2.length ≤ 1048576) :
    Calls Try.prog 58 #[.slice A n c] w (RetShs 31 n ss w) := by
  have HLN := hide hr.1
  have HDD := hide hd
  clear hd
  go_enter Try.func58, Try.ntmps58
  go_wp2_with fail
  go_loopw [3, 4] (fun v i wr => ∃ (k : Nat) (A' : Option Addr) (c' : Nat) (hs : List (Option Addr × Nat)), k ≤ n ∧ i = .int .i64 k ∧ v = .slice A' k c' ∧ k ≤ c' ∧ ShO wr w.heap.size 31 A' k c' hs (ss.take k) ∧ Below w.heap.size w wr) (fun _ i _ => n - (intOf i).toNat)
  case atStart => exact ⟨0, _, _, [], by omega, rfl, rfl, Nat.le_refl _, ⟨rfl, World.ownsRow_made w #[] 0 (Nat.le_refl _) (by omega) rfl, fun k h => absurd h (by simp), fun i j hi => absurd hi (by simp)⟩, (by repeat (first | with_reducible exact Below.refl _ _ | with_reducible assumption | refine Below.alloc ?_ (by first | omega | (simp; done) | (simp; omega)) _ | refine Below.setCell ?_ (by first | omega | (simp; done) | (simp; omega)) _ | refine Below.drew ?_ | refine below_drewN ?_ _ | exact Below.refl _ _ | assumption))⟩
  case round =>
    obtain ⟨k, A', c', hs, hk, rfl, rfl, hkc, hO, hB⟩ := hrel
    by_cases hlt : k < n
    · obtain ⟨b, off, rfl, hblt, hl, Ak, ck, hx0, hd0, hrd0⟩ := hr.at_ hlt
      have hx := cell_old hx0 hB hblt
      have hdd := cell_old hd0 hB hblt
      have hdl := HDD.out k hl
      have hsz := hB.size
      have HO := hide hO
      have HRD := hide ((hrd0.up hB).drew)
      have HX := hide hx0
      have HD0 := hide hd0
      clear hO hrd0 hx0 hd0
      go_wp2_with fail
      go_region_held3 (fun w' => w'.cell? ⟨b, off + k * 2, none⟩ = some (.int .i64 ss[k].1) ∧ w'.cell? ⟨b, off + k * 2 + 1, none⟩ = some (.slice Ak ss[k].2.length ck)) (first | exact ⟨hx, hdd⟩ | exact ⟨cell_old (B := w.heap.size) HX.out (by repeat (first | with_reducible exact Below.refl _ _ | with_reducible assumption | refine Below.alloc ?_ (by first | omega | (simp; done) | (simp; omega)) _ | refine Below.setCell ?_ (by first | omega | (simp; done) | (simp; omega)) _ | refine Below.drew ?_ | refine below_drewN ?_ _ | exact Below.refl _ _ | assumption)) hblt, cell_old (B := w.heap.size) HD0.out (by repeat (first | with_reducible exact Below.refl _ _ | with_reducible assumption | refine Below.alloc ?_ (by first | omega | (simp; done) | (simp; omega)) _ | refine Below.setCell ?_ (by first | omega | (simp; done) | (simp; omega)) _ | refine Below.drew ?_ | refine below_drewN ?_ _ | exact Below.refl _ _ | assumption)) hblt⟩) (first | (go_at_call 61; refine (l01Bytes_c Ak _ ck ss[k].2 _ HRD.out (by omega)).mono ?_; rintro e w1 ⟨A1, c1, rfl, hc1, ho1, hb1⟩; have hb2 : Below wr.heap.size wr w1 := ⟨hb1.os, hb1.tape, hb1.output, hb1.size, hb1.block⟩; have hT := then_ (w0 := w) (B := w.heap.size) hB hb2 hsz; have hsz1 := hT.size; have HO1 := hide (ShO.below HO.out hb2)) | (refine step_push w1 (by rfl) (.tmp 12) (.tmp 25) 26 (by rfl) w.heap.size 31 (.agg #[.int .i64 0, .slice none 0 0]) 2 32 Try.underlying26 info40 rfl (by omega) A' k c' _ [.int .i64 ss[k].1, .slice A1 ss[k].2.length c1] (by rfl) HO1.out.row (by rfl) rfl (by simp [Value.oneCell']) (by omega) (by omega) hsz1 ?_; intro A2 c2 w2 hc2 ho2 hg2 _; have hT2 := hT.trans (grown_below HO1.out.row hg2 hsz1)) | fail)
      have hP := HO.out.push (s := ss[k]) (by decide) hsz hb2 ho1 ho2 hg2
      rw [← List.take_succ_eq_append_getElem hl] at hP
      have HP := hide hP
      have HT := hide hT2
      clear hP hb1 hb2 ho1 ho2 hg2 hT hT2 hx hdd
      go_wp2_with fail
      exact ⟨⟨k + 1, _, _, _, by omega, by go_num, rfl, hc2, HP.out, HT.out⟩, by simp [intOf]; omega⟩
    · have HE : Hid (ss.take k = ss) := List.take_of_length_le (by rw [HLN.out]; omega)
      have HK : Hid (k = n) := by show k = n; omega
      rw [HE.out] at hO
      rw [HK.out] at hO hkc
      have HO := hide hO
      have HB := hide hB
      clear hO hB
      go_wp2_with fail
      go_ret
      exact ⟨_, _, _, by rw [show k = n from HK.out]; rfl, hkc, HO.out, HB.out⟩
theorem cloneShares_c (A : Option Addr) (n c : Nat) (ss : List Sh) (w : World) (hr : ShR w w.heap.size A n ss) (hn : n ≤ 1048576) (hd : ∀ k (h : k < ss.length), ss[k].2.length ≤ 1048576) :
    Calls Try.prog 51 #[.slice A n c] w (RetShs 31 n ss w) := by
  have HLN := hide hr.1
  have HDD := hide hd
  clear hd
  go_enter Try.func51, Try.ntmps51
  go_wp2_with fail
  go_loopw [3, 8] (fun v i wr => ∃ (k : Nat) (A' : Option Addr) (c' : Nat) (hs : List (Option Addr × Nat)), k ≤ n ∧ i = .int .i64 k ∧ v = .slice A' k c' ∧ k ≤ c' ∧ ShO wr w.heap.size 31 A' k c' hs (ss.take k) ∧ Below w.heap.size w wr) (fun _ i _ => n - (intOf i).toNat)
  case atStart => exact ⟨0, none, 0, [], by omega, rfl, rfl, Nat.le_refl _, ShO.nil _ _ _, Below.refl _ _⟩
  case round =>
    obtain ⟨k, A', c', hs, hk, rfl, rfl, hkc, hO, hB⟩ := hrel
    by_cases hlt : k < n
    · obtain ⟨b, off, rfl, hblt, hl, Ak, ck, hx0, hd0, hrd0⟩ := hr.at_ hlt
      have hx := cell_old hx0 hB hblt
      have hdd := cell_old hd0 hB hblt
      have hdl := HDD.out k hl
      have hsz := hB.size
      have HO := hide hO
      have HRD := hide (hrd0.up hB)
      clear hO hrd0 hx0 hd0
      go_wp2_with fail
      have L := Blk.new wr 31 #[.int .i64 ss[k].1, .slice Ak ss[k].2.length ck]
      have hq : Below wr.heap.size wr (wr.alloc (.cells #[.int .i64 ss[k].1, .slice Ak ss[k].2.length ck] 31)) := (by repeat (first | with_reducible exact Below.refl _ _ | with_reducible assumption | refine Below.alloc ?_ (by first | omega | (simp; done) | (simp; omega)) _ | refine Below.setCell ?_ (by first | omega | (simp; done) | (simp; omega)) _ | refine Below.drew ?_ | refine below_drewN ?_ _ | exact Below.refl _ _ | assumption))
      have hzq : wr.heap.size + 1 ≤ (wr.alloc (.cells #[.int .i64 ss[k].1, .slice Ak ss[k].2.length ck] 31)).heap.size := by simp
      generalize wr.alloc (.cells #[.int .i64 ss[k].1, .slice Ak ss[k].2.length ck] 31) = wq at L hq hzq ⊢
      have q0 := L.cell 0
      have q1 := L.cell 1
      have HRQ := hide ((HRD.out.up hq).drew)
      have HNE := hide (fun a (ha : A' = some a) => show a.block ≠ wr.heap.size from by have h := HO.out.row; subst ha; have := own_lt h; omega)
      clear hx hdd L
      go_region_held3 (fun w' => w'.cell? ⟨wr.heap.size, 0, none⟩ = some (.int .i64 ss[k].1) ∧ w'.cell? ⟨wr.heap.size, 1, none⟩ = some (.slice Ak ss[k].2.length ck)) (first | exact ⟨r0, r1⟩ | exact ⟨p0, p1⟩ | exact ⟨cell_al p0 (by first | omega | (simp; done) | (simp; omega)) _, cell_al p1 (by first | omega | (simp; done) | (simp; omega)) _⟩ | exact ⟨q0, q1⟩) (first | (go_at_call 73; refine (cloneBytes_c Ak _ ck ss[k].2 _ HRQ.out (by omega)).mono ?_; rintro e w1 ⟨A1, c1, rfl, hc1, ho1, hb1⟩; have hb2 : Below wq.heap.size wq w1 := ⟨hb1.os, hb1.tape, hb1.output, hb1.size, hb1.block⟩; have p0 := cell_old q0 hb2 (by first | omega | (simp; done) | (simp; omega)); have p1 := cell_old q1 hb2 (by first | omega | (simp; done) | (simp; omega)); have hb3 := hq.trans (hb2.mono (by omega)); have hT := then_ (w0 := w) (B := w.heap.size) hB hb3 hsz; have hsz1 := hT.size; have hszr := hb3.size; have hszq := hb2.size; have HO1 := hide (ShO.below HO.out hb3)) | (refine step_push w1 (by rfl) (.tmp 12) (.tmp 19) 26 (by rfl) w.heap.size 31 (.agg #[.int .i64 0, .slice none 0 0]) 2 32 Try.underlying26 info40 rfl (by omega) A' k c' _ [.int .i64 ss[k].1, .slice A1 ss[k].2.length c1] (by rfl) HO1.out.row (by rfl) rfl (by simp [Value.oneCell']) (by omega) (by omega) hsz1 ?_; intro A2 c2 w2 hc2 ho2 hg2 _; have r0 := (far_cell hg2 wr.heap.size 0 (by omega) HNE.out).trans p0; have r1 := (far_cell hg2 wr.heap.size 1 (by omega) HNE.out).trans p1; have hT2 := hT.trans (grown_below HO1.out.row hg2 hsz1)) | fail)
      have hP := HO.out.push (s := ss[k]) (by decide) hsz hb3 (own_mono ho1 (by have := hq.size; exact this)) ho2 hg2
      rw [← List.take_succ_eq_append_getElem hl] at hP
      have HP := hide hP
      have HT := hide hT2
      clear hP hb1 hb2 hb3 ho1 ho2 hg2 hT hT2 q0 q1 p0 p1 r0 r1
      go_wp2_with fail
      exact ⟨⟨k + 1, _, _, _, by omega, by go_num, rfl, hc2, HP.out, HT.out⟩, by simp [intOf]; omega⟩
    · have HE : Hid (ss.take k = ss) := List.take_of_length_le (by rw [HLN.out]; omega)
      have HK : Hid (k = n) := by show k = n; omega
      rw [HE.out] at hO
      rw [HK.out] at hO hkc
      have HO := hide hO
      have HB := hide hB
      clear hO hB
      go_wp2_with fail
      go_ret
      exact ⟨_, _, _, by rw [show k = n from HK.out]; rfl, hkc, HO.out, HB.out⟩
end Go.Proofs.Ytgkjgaijjihmgaa
