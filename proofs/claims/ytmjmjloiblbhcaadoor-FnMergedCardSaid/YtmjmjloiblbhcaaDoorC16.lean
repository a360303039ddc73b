/- Drawn policies and what holds them against each other; each contract says for which arguments. -/
import Derived.Test.YtmjmjloiblbhcaaDoorCX
import Derived.Test.YtmjmjloiblbhcaaDoorC7
import Derived.BigQuiet
namespace Go.Proofs.YtmjmjloiblbhcaaDoor
open Go.RowKit
set_option maxRecDepth 100000
set_option maxHeartbeats 1000000
def atV (l : List UInt8) (i : Int) : Int := if h : i.toNat < l.length then ((l[i.toNat]).toNat : Int) else (i * 13 + (l.length : Int) * 5) % 256
theorem atV_bd (l : List UInt8) (i : Int) : 0 ≤ atV l i ∧ atV l i < 256 := by
  unfold atV
  split
  · rename_i h; have := UInt8.toNat_lt l[i.toNat]; omega
  · omega
theorem at_c (A : Option Addr) (n c : Nat) (l : List UInt8) (i : Int) (w : World) (hi : Nat) (hr : Rd w hi 1 A n (bC l)) (hn : n ≤ 1048576) (h0 : 0 ≤ i) (h1 : i ≤ 1000000) :
    Calls Tryd.prog 12 #[.slice A n c, .int .i64 i] w (Pure (.int .i64 (atV l i)) w) := by
  have hln := hide hr.bn
  obtain ⟨k, rfl⟩ := Int.eq_ofNat_of_zero_le h0
  clear h0
  by_cases hlt : k < n
  · obtain ⟨b, off, rfl, _, hl, hc⟩ := hr.byte hlt
    have e : Hid (atV l k = (l[k].toNat : Int)) := by show atV l k = _; unfold atV; rw [dif_pos (by simpa using hl)]; rfl
    have hx := UInt8.toNat_lt l[k]
    go_enter Tryd.func12, Tryd.ntmps12
    go_wp2
    go_ret
    exact ⟨ret_int e.out.symm, rfl⟩
  · have e : Hid (atV l k = ((k : Int) * 13 + (n : Int) * 5) % 256) := by
      have := hln.out
      show atV l k = _; unfold atV; rw [dif_neg (by simp; omega), this]
    go_enter Tryd.func12, Tryd.ntmps12
    go_wp2
    go_ret
    exact ⟨ret_int e.out.symm, rfl⟩
/-- a drawn policy, in new memory -/
def RetDP (w : World) (en : Ending) (w' : World) : Prop :=
  ∃ (nm : ByteArray) (A : Option Addr) (c : Nat) (rs : List Rl), nm.size ≤ 13 ∧ rs.length ≤ 64 ∧ (∀ r ∈ rs, r.1.size ≤ 200) ∧ en = .returned (.agg #[.string nm, .slice A rs.length c]) ∧ w'.ownsRow w.heap.size 53 2 (.slice A rs.length c) rs.length (rC rs) ∧ Below w.heap.size w w'
theorem rs_len {w : World} {base n c : Nat} {A : Option Addr} {rs : List Rl} (h : w.ownsRow base 53 2 (.slice A n c) n (rC rs)) : n = rs.length := by have := h.1; rw [rC_length] at this; omega
theorem new1_c (A : Option Addr) (n c : Nat) (l : List UInt8) (o : Obj) (w : World) (hr : Rd w w.heap.size 1 A n (bC l)) (hn : n ≤ 1048576) : Calls Tryd.prog 48 #[.slice A n c] (w.alloc o)
    (fun en w' => en = .returned (.pointer (some ⟨w.heap.size + 1, 0, none⟩)) ∧ Cur w' (w.heap.size + 1) (w.heap.size + 1) ∧ Below (w.heap.size + 1) (w.alloc o) w') :=
  (l01New_c A n c l (w.alloc o) ((hr.below (B := w.heap.size) (by repeat (first | with_reducible exact Below.refl _ _ | with_reducible assumption | refine Below.alloc ?_ (by first | omega | (simp; done) | (simp; omega)) _ | refine Below.setCell ?_ (by first | omega | (simp; done) | (simp; omega)) _ | refine Below.drew ?_ | refine below_drewN ?_ _ | exact Below.refl _ _ | assumption)) (Nat.le_refl _)).mono (by simp)) hn).mono fun en w' h => by
    obtain ⟨h1, h2, h3⟩ := h
    simp only [World.size_alloc] at h1 h2 h3
    exact ⟨h1, h2, h3⟩
theorem DrawPolicyOk_c (A : Option Addr) (n c : Nat) (l : List UInt8) (w : World) (hr : Rd w w.heap.size 1 A n (bC l)) (hn : n ≤ 1048576) : Calls Tryd.prog 28 #[.slice A n c] w (RetDP w) := by
  have C0 := hide (new1_c A n c l (.cells #[.string ⟨#[]⟩, .slice none 0 0] 26) w hr hn)
  clear hr
  go_enter Tryd.func28, Tryd.ntmps28
  go_wp2_with fail
  refine C0.out.mono ?_
  rintro e w1 ⟨rfl, hc1, hb1⟩
  have HB1 : Hid (Below w.heap.size w w1) := Below.trans (b := w.alloc (.cells #[.string ⟨#[]⟩, .slice none 0 0] 26)) (by repeat (first | with_reducible exact Below.refl _ _ | with_reducible assumption | refine Below.alloc ?_ (by first | omega | (simp; done) | (simp; omega)) _ | refine Below.setCell ?_ (by first | omega | (simp; done) | (simp; omega)) _ | refine Below.drew ?_ | refine below_drewN ?_ _ | exact Below.refl _ _ | assumption)) (hb1.mono (by omega))
  have HR1 : Hid (Blk w1 w.heap.size 26 #[.string ⟨#[]⟩, .slice none 0 0]) := (Blk.new w _ _).below hb1 (by omega)
  have HC1 := hide hc1
  have hsz := hb1.size
  simp only [World.size_alloc] at hsz
  clear hb1 hc1 C0
  go_wp2_with fail
  refine (l01Size_c A n c 12 w1 hn (by omega)).mono ?_
  rintro e w2 ⟨m, hm, rfl, rfl⟩
  have C3 := hide (l01Below_c (m : Int) (w.heap.size + 1) (w.heap.size + 1) w2 HC1.out (by omega))
  go_wp2_with fail
  refine C3.out.mono ?_
  rintro e w3 ⟨r, ⟨r0, _, r1⟩, rfl, hc3, hm3⟩
  have HC3 := hide hc3
  have HM3 := hide hm3
  have h64 := hide (show r ≤ 64 by omega)
  clear hc3 hm3 r1 C3
  rename_i hx
  clear hx r0
  go_wp2_with fail
  refine (l01Once_c 12 (w.heap.size + 1) (w.heap.size + 1) w3 HC3.out (by omega)).mono ?_
  rintro e w4 ⟨b4, rfl, hc4, hm4⟩
  have HC4 := hide hc4
  have HM4 := hide (HM3.out.trans hm4)
  have hs4 := HM4.out.size
  have C5 := hide fun (k : Int) (hk : k ≤ 64) => l02DrawPolicy_c k (w.heap.size + 1) (w.heap.size + 1) w4 hc4 hk
  clear hc4 hm4
  cases b4
  case false =>
    have CC := C5.out r (by first | exact h64.out | omega)
    have HCC := hide CC
    clear CC C5
    go_wp2_with fail
    refine HCC.out.mono ?_
    rintro e w5 ⟨nm, A5, k5, c5, rs, hnm, hk5, hkc5, hrs, rfl, ho5, hc5, hm5⟩
    obtain rfl := rs_len ho5
    have HT := hide (HM4.out.trans hm5)
    have HR5 : Hid (Blk w5 w.heap.size 26 #[.string ⟨#[]⟩, .slice none 0 0]) := (HT.out.block w.heap.size HR1.out.lt (by omega)).trans HR1.out
    have hr5 := HR5.out
    have hlr := hr5.lt
    have qR := hr5.cell
    have fR := hr5.frozen
    have HRX := hide ((hr5.set' 0 (.string nm)).set' 1 (.slice A5 rs.length c5))
    have HO := hide ho5
    have HRS := hide hrs
    have HBB : Hid (Below w.heap.size w w5) := HB1.out.trans (HT.out.below2 (by omega) (by omega))
    clear hr5 ho5 hc5 hm5 hrs HCC
    go_wp2_with fail
    have qS : ∀ i, ((w5.setCell ⟨w.heap.size, 0, none⟩ (.string nm)).setCell ⟨w.heap.size, 1, none⟩ (.slice A5 rs.length c5)).cell? ⟨w.heap.size, i, none⟩ = (#[.string nm, .slice A5 rs.length c5] : Array Value)[i]? := HRX.out.cell
    refine bodyPost_ret (v := .agg #[.string nm, .slice A5 rs.length c5]) (by simp [results, Tryd.results28, go_sem, qS]) rfl ?_
    exact ⟨nm, A5, c5, rs, hnm, hk5, HRS.out, rfl, own_mono (ownsRow_setCell_below (ownsRow_setCell_below HO.out (by show w.heap.size < w4.heap.size; omega) _) (by show w.heap.size < w4.heap.size; omega) _) (by omega), (HBB.out.setCell (Nat.le_refl _) _).setCell (Nat.le_refl _) _⟩
  case true =>
    have CC := C5.out 40 (by first | exact h64.out | omega)
    have HCC := hide CC
    clear CC C5
    go_wp2_with fail
    refine HCC.out.mono ?_
    rintro e w5 ⟨nm, A5, k5, c5, rs, hnm, hk5, hkc5, hrs, rfl, ho5, hc5, hm5⟩
    obtain rfl := rs_len ho5
    have HT := hide (HM4.out.trans hm5)
    have HR5 : Hid (Blk w5 w.heap.size 26 #[.string ⟨#[]⟩, .slice none 0 0]) := (HT.out.block w.heap.size HR1.out.lt (by omega)).trans HR1.out
    have hr5 := HR5.out
    have hlr := hr5.lt
    have qR := hr5.cell
    have fR := hr5.frozen
    have HRX := hide ((hr5.set' 0 (.string nm)).set' 1 (.slice A5 rs.length c5))
    have HO := hide ho5
    have HRS := hide hrs
    have HBB : Hid (Below w.heap.size w w5) := HB1.out.trans (HT.out.below2 (by omega) (by omega))
    clear hr5 ho5 hc5 hm5 hrs HCC
    go_wp2_with fail
    have qS : ∀ i, ((w5.setCell ⟨w.heap.size, 0, none⟩ (.string nm)).setCell ⟨w.heap.size, 1, none⟩ (.slice A5 rs.length c5)).cell? ⟨w.heap.size, i, none⟩ = (#[.string nm, .slice A5 rs.length c5] : Array Value)[i]? := HRX.out.cell
    refine bodyPost_ret (v := .agg #[.string nm, .slice A5 rs.length c5]) (by simp [results, Tryd.results28, go_sem, qS]) rfl ?_
    exact ⟨nm, A5, c5, rs, hnm, hk5, HRS.out, rfl, own_mono (ownsRow_setCell_below (ownsRow_setCell_below HO.out (by show w.heap.size < w4.heap.size; omega) _) (by show w.heap.size < w4.heap.size; omega) _) (by omega), (HBB.out.setCell (Nat.le_refl _) _).setCell (Nat.le_refl _) _⟩
theorem DrawPolicyText_c (A : Option Addr) (n c : Nat) (l : List UInt8) (w : World) (hr : Rd w w.heap.size 1 A n (bC l)) (hn : n ≤ 1048576) : Calls Tryd.prog 7 #[.slice A n c] w (RetDP w) := by
  have C0 := hide (DrawPolicyOk_c A n c l (w.alloc (.cells #[.string ⟨#[]⟩, .slice none 0 0] 26)) ((hr.below (B := w.heap.size) (by repeat (first | with_reducible exact Below.refl _ _ | with_reducible assumption | refine Below.alloc ?_ (by first | omega | (simp; done) | (simp; omega)) _ | refine Below.setCell ?_ (by first | omega | (simp; done) | (simp; omega)) _ | refine Below.drew ?_ | refine below_drewN ?_ _ | exact Below.refl _ _ | assumption)) (Nat.le_refl _)).mono (by simp)) hn)
  clear hr
  go_enter Tryd.func7, Tryd.ntmps7
  go_wp2_with fail
  refine C0.out.mono ?_
  rintro e w1 ⟨nm, A5, c5, rs, hnm, hk5, hrs, rfl, hr5, hb1⟩
  simp only [World.size_alloc] at hb1 hr5
  have HR1 : Hid (Blk w1 w.heap.size 26 #[.string ⟨#[]⟩, .slice none 0 0]) := (Blk.new w _ _).below hb1 (by omega)
  have hr1 := HR1.out
  have hlr := hr1.lt
  have qR := hr1.cell
  have fR := hr1.frozen
  have HRX := hide ((hr1.set' 0 (.string nm)).set' 1 (.slice A5 rs.length c5))
  have HBB : Hid (Below w.heap.size w w1) := Below.trans (b := w.alloc (.cells #[.string ⟨#[]⟩, .slice none 0 0] 26)) (by repeat (first | with_reducible exact Below.refl _ _ | with_reducible assumption | refine Below.alloc ?_ (by first | omega | (simp; done) | (simp; omega)) _ | refine Below.setCell ?_ (by first | omega | (simp; done) | (simp; omega)) _ | refine Below.drew ?_ | refine below_drewN ?_ _ | exact Below.refl _ _ | assumption)) (hb1.mono (by omega))
  have HRS := hide hrs
  have HRR := hide hr5
  clear hr1 hrs hr5
  go_wp2_with fail
  have qS : ∀ i, ((w1.setCell ⟨w.heap.size, 0, none⟩ (.string nm)).setCell ⟨w.heap.size, 1, none⟩ (.slice A5 rs.length c5)).cell? ⟨w.heap.size, i, none⟩ = (#[.string nm, .slice A5 rs.length c5] : Array Value)[i]? := HRX.out.cell
  refine bodyPost_ret (v := .agg #[.string nm, .slice A5 rs.length c5]) (by simp [results, Tryd.results7, go_sem, qS]) rfl ?_
  exact ⟨nm, A5, c5, rs, hnm, hk5, HRS.out, rfl, own_mono (ownsRow_setCell_below (ownsRow_setCell_below HRR.out (by show w.heap.size < w.heap.size + 1; omega) _) (by show w.heap.size < w.heap.size + 1; omega) _) (by omega), (HBB.out.setCell (Nat.le_refl _) _).setCell (Nat.le_refl _) _⟩
theorem samePolicy_c (nm : ByteArray) (A A2 : Option Addr) (c c2 : Nat) (l : List Rl) (w : World) (hr : Rd w w.heap.size 2 A l.length (rC l)) (hr2 : Rd w w.heap.size 2 A2 l.length (rC l)) :
    Calls Tryd.prog 11 #[.agg #[.string nm, .slice A l.length c], .agg #[.string nm, .slice A2 l.length c2]] w (RetV (.bool true) w) := by
  have hn := hr.bd
  have e0 : (nm.toList == nm.toList) = true := by simp
  have hba : Below w.heap.size w ((w.alloc (.cells #[.string nm, .slice A l.length c] 26)).alloc (.cells #[.string nm, .slice A2 l.length c2] 26)) := (by repeat (first | with_reducible exact Below.refl _ _ | with_reducible assumption | refine Below.alloc ?_ (by first | omega | (simp; done) | (simp; omega)) _ | refine Below.setCell ?_ (by first | omega | (simp; done) | (simp; omega)) _ | refine Below.drew ?_ | refine below_drewN ?_ _ | exact Below.refl _ _ | assumption))
  have X1 := hide (hr.below hba (Nat.le_refl _))
  have X2 := hide (hr2.below hba (Nat.le_refl _))
  have La := ((Blk.new w 26 #[.string nm, .slice A l.length c]).alloc (.cells #[.string nm, .slice A2 l.length c2] 26)).cell
  have Lb := (Blk.new1 w (.cells #[.string nm, .slice A l.length c] 26) 26 #[.string nm, .slice A2 l.length c2]).cell
  have HLA := hide La
  have HLB := hide Lb
  have HBA := hide hba
  clear hr hr2 La Lb hba
  go_enter Tryd.func11, Tryd.ntmps11
  go_wp2_with fail
  generalize hW : ((w.alloc (.cells #[.string nm, .slice A l.length c] 26)).alloc (.cells #[.string nm, .slice A2 l.length c2] 26)) = W at X1 X2 HLA HLB HBA ⊢
  clear hW
  go_loopw [5] (fun i wr => ∃ k m : Nat, k ≤ l.length ∧ i = .int .i64 k ∧ wr = W.drewN m) (fun i _ => l.length - (intOf i).toNat)
  case atStart => exact ⟨0, 0, by omega, rfl, rfl⟩
  case round =>
    obtain ⟨k, m, hk, rfl, rfl⟩ := hrel
    have q1 : W.cell? ⟨w.heap.size, 1, none⟩ = some (.slice A l.length c) := HLA.out 1
    have q2 : W.cell? ⟨w.heap.size + 1, 1, none⟩ = some (.slice A2 l.length c2) := HLB.out 1
    by_cases hlt : k < l.length
    · obtain ⟨b, off, rfl, hblt, hl, hc, hd⟩ := X1.out.rule hlt
      obtain ⟨b', off', rfl, hblt', hl', hc', hd'⟩ := X2.out.rule hlt
      have e1 : (l[k].1.toList == l[k].1.toList) = true := by simp
      have e2 : (l[k].2 == l[k].2) = true := by simp
      go_wp2_with fail
      go_quiet (fail)
      go_wp2_with fail
      exact ⟨⟨k + 1, _, by omega, by go_num, rfl⟩, by simp [intOf]; omega⟩
    · go_wp2_with fail
      go_ret
      exact ⟨rfl, below_drewN HBA.out m⟩
end Go.Proofs.YtmjmjloiblbhcaaDoor
