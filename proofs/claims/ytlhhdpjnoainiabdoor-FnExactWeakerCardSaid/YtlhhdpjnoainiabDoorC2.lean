/- What MatchAll gives, in the program and in its reference; each contract says for which arguments. -/
import Derived.Test.YtlhhdpjnoainiabDoorB4a
import Derived.Test.YtlhhdpjnoainiabDoorB7
import Derived.Test.YtlhhdpjnoainiabDoorCI
import Derived.Test.YtlhhdpjnoainiabDoorMemC
namespace Go.Proofs.YtlhhdpjnoainiabDoor
open Go.RowKit
set_option maxRecDepth 100000
set_option maxHeartbeats 400000
def matchAt (l : List ByteArray) (p : ByteArray) (k : Nat) : Bool := match l[k]? with
  | none => false
  | some g => matchB g p
/-- the places below k at which a glob fits -/
def mIdx (l : List ByteArray) (p : ByteArray) : Nat → List Int
  | 0 => []
  | k + 1 => if matchAt l p k then mIdx l p k ++ [(k : Int)] else mIdx l p k
theorem mIdx_hit {l : List ByteArray} {p : ByteArray} {k : Nat} (hk : k < l.length) (h : matchB l[k] p = true) : mIdx l p (k + 1) = mIdx l p k ++ [(k : Int)] := by
  rw [mIdx, if_pos (by unfold matchAt; rw [List.getElem?_eq_getElem hk]; exact h)]
theorem mIdx_miss {l : List ByteArray} {p : ByteArray} {k : Nat} (hk : k < l.length) (h : matchB l[k] p = false) : mIdx l p (k + 1) = mIdx l p k := by
  rw [mIdx, if_neg (by unfold matchAt; rw [List.getElem?_eq_getElem hk]; simp [h])]
theorem mIdx_len (l : List ByteArray) (p : ByteArray) : ∀ k, (mIdx l p k).length ≤ k
  | 0 => by simp [mIdx]
  | k + 1 => by
    have := mIdx_len l p k
    unfold mIdx
    split
    · simp; omega
    · omega
def mAll (l : List ByteArray) (p : ByteArray) : List Int := if 200 < l.length then [] else mIdx l p l.length
theorem mAll_len (l : List ByteArray) (p : ByteArray) : (mAll l p).length ≤ 200 := by
  unfold mAll
  split
  · simp
  · have := mIdx_len l p l.length; omega
theorem MatchAll_i (A : Option Addr) (c : Nat) (l : List ByteArray) (p : ByteArray) (w : World) (hg : GM w) (hr : Rd w w.heap.size 1 A l.length (sC l)) (hl : ∀ x ∈ l, x.size < 4294967281) (hp : p.size < 4294967281) :
    Calls Tryd.prog 18 #[.slice A l.length c, .string p] w (RetRow 3 1 (mAll l p).length (iC (mAll l p)) w) := by
  have hn := hr.bd
  by_cases h200 : 200 < l.length
  · have HQ : Hid (mAll l p = []) := by show mAll l p = []; unfold mAll; rw [if_pos h200]
    generalize mAll l p = R at HQ ⊢
    go_enter Tryd.func18, Tryd.ntmps18
    go_wp2_with fail
    go_ret
    rw [HQ.out]
    exact ⟨none, 0, rfl, Nat.le_refl _, World.ownsRow_nil _ _ _ _, Below.refl _ _⟩
  have HQ : Hid (mAll l p = mIdx l p l.length) := by show mAll l p = _; unfold mAll; rw [if_neg h200]
  generalize mAll l p = R at HQ ⊢
  go_enter Tryd.func18, Tryd.ntmps18
  go_wp2_with fail
  go_loopw [5, 6, 7, 13] (fun v _ _ iv wr => ∃ (k : Nat) (A' : Option Addr) (c' : Nat), k ≤ l.length ∧ iv = .int .i64 k ∧ v = .slice A' (mIdx l p k).length c' ∧ (mIdx l p k).length ≤ c' ∧ wr.ownsRow w.heap.size 3 1 (.slice A' (mIdx l p k).length c') (mIdx l p k).length (iC (mIdx l p k)) ∧ Below w.heap.size w wr) (fun _ _ _ iv _ => l.length - (intOf iv).toNat)
  case atStart => exact ⟨0, none, 0, by omega, rfl, rfl, Nat.le_refl _, World.ownsRow_nil _ _ _ _, Below.refl _ _⟩
  case round =>
    obtain ⟨k, A', c', hk, rfl, rfl, hkc, hown, hb⟩ := hrel
    have hml := mIdx_len l p k
    have HO := hide hown
    have HB := hide hb
    clear hown
    by_cases hlt : k < l.length
    · obtain ⟨b, off, rfl, hblt, hl', hc⟩ := (hr.up hb).str hlt
      have hM := MatchGlob_i l[k] p wr (hg.up hb) (hl _ (List.getElem_mem hl')) hp
      cases hm : matchB l[k] p
      · have HM := hide (mIdx_miss hl' hm)
        rw [hm] at hM
        clear hm hb
        generalize hL : mIdx l p k = L at HM HO hkc hml ⊢
        clear hL
        go_wp2_with fail
        refine hM.mono ?_
        rintro e w1 ⟨rfl, hb1⟩
        have hB1 := then_ HB.out hb1 HB.out.size
        go_wp2_with fail
        refine ⟨⟨k + 1, A', c', by omega, by go_num, ?_, ?_, ?_, hB1⟩, by simp [intOf]; omega⟩
        all_goals rw [HM.out]
        · exact hkc
        · exact own_below HO.out hb1
      · have HM := hide (mIdx_hit hl' hm)
        rw [hm] at hM
        clear hm hb
        generalize hL : mIdx l p k = L at HM HO hkc hml ⊢
        clear hL
        go_wp2_with fail
        refine hM.mono ?_
        rintro e w1 ⟨rfl, hb1⟩
        have hB1 := then_ HB.out hb1 HB.out.size
        have hsz := hB1.size
        have HO1 := hide (own_below HO.out hb1)
        have HB1 := hide hB1
        clear hb1 hB1
        go_wp2_with (at_builtin; refine wpList_push w1 rfl (.tmp 21) (.tmp 23) 24 rfl w.heap.size 3 _ 1 8 Tryd.underlying24 info_i rfl (by omega) A' L.length c' _ [.int .i64 (k : Int)] rfl HO1.out rfl rfl (by simp [Value.oneCell']) (by omega) (by omega) hsz ?_; intro A'' c'' w2 hc1 hown1 hg1 _)
        refine ⟨⟨k + 1, A'', c'', by omega, by go_num, ?_, ?_, ?_, HB1.out.trans (grown_below HO1.out hg1 hsz)⟩, by simp [intOf]; omega⟩
        all_goals rw [HM.out]
        · simp
        · simpa using hc1
        · have := hown1
          simpa [iC] using this
    · obtain rfl : k = l.length := by omega
      rw [← HQ.out] at HO hkc ⊢
      clear hb
      go_wp2_with fail
      go_ret
      exact ⟨_, _, rfl, hkc, HO.out, HB.out⟩
theorem MatchAll_s (A : Option Addr) (c : Nat) (l : List ByteArray) (p : ByteArray) (w : World) (hr : Rd w w.heap.size 1 A l.length (sC l)) (hl : ∀ x ∈ l, x.size < 4294967281) (hp : p.size < 4294967281) :
    Calls Tryd.prog 16 #[.slice A l.length c, .string p] w (RetRow 3 1 (mAll l p).length (iC (mAll l p)) w) := by
  have hn := hr.bd
  by_cases h200 : 200 < l.length
  · have HQ : Hid (mAll l p = []) := by show mAll l p = []; unfold mAll; rw [if_pos h200]
    generalize mAll l p = R at HQ ⊢
    go_enter Tryd.func16, Tryd.ntmps16
    go_wp2_with fail
    go_ret
    rw [HQ.out]
    exact ⟨none, 0, rfl, Nat.le_refl _, World.ownsRow_nil _ _ _ _, (Below.refl _ _).alloc (Nat.le_refl _) _⟩
  have HQ : Hid (mAll l p = mIdx l p l.length) := by show mAll l p = _; unfold mAll; rw [if_neg h200]
  generalize mAll l p = R at HQ ⊢
  go_enter Tryd.func16, Tryd.ntmps16
  go_wp2_with fail
  go_loopw [5, 6] (fun v iv wr => ∃ (k : Nat) (A' : Option Addr) (c' : Nat), k ≤ l.length ∧ iv = .int .i64 k ∧ v = .slice A' (mIdx l p k).length c' ∧ (mIdx l p k).length ≤ c' ∧ wr.ownsRow w.heap.size 3 1 (.slice A' (mIdx l p k).length c') (mIdx l p k).length (iC (mIdx l p k)) ∧ Below w.heap.size w wr) (fun _ iv _ => l.length - (intOf iv).toNat)
  case atStart => exact ⟨0, _, _, by omega, rfl, rfl, Nat.le_refl _, World.ownsRow_made w #[] 0 (Nat.le_refl _) (by omega) rfl, (Below.refl _ _).alloc (Nat.le_refl _) _⟩
  case round =>
    obtain ⟨k, A', c', hk, rfl, rfl, hkc, hown, hb⟩ := hrel
    have hml := mIdx_len l p k
    have HO := hide hown
    have HB := hide hb
    clear hown
    by_cases hlt : k < l.length
    · obtain ⟨b, off, rfl, hblt, hl', hc⟩ := (hr.up hb).str hlt
      have hM := MatchGlob_s l[k] p wr (hl _ (List.getElem_mem hl')) hp
      cases hm : matchB l[k] p
      · have HM := hide (mIdx_miss hl' hm)
        rw [hm] at hM
        clear hm hb
        generalize hL : mIdx l p k = L at HM HO hkc hml ⊢
        clear hL
        go_wp2_with fail
        refine hM.mono ?_
        rintro e w1 ⟨rfl, hb1⟩
        have hB1 := then_ HB.out hb1 HB.out.size
        go_wp2_with fail
        refine ⟨⟨k + 1, A', c', by omega, by go_num, ?_, ?_, ?_, hB1⟩, by simp [intOf]; omega⟩
        all_goals rw [HM.out]
        · exact hkc
        · exact own_below HO.out hb1
      · have HM := hide (mIdx_hit hl' hm)
        rw [hm] at hM
        clear hm hb
        generalize hL : mIdx l p k = L at HM HO hkc hml ⊢
        clear hL
        go_wp2_with fail
        refine hM.mono ?_
        rintro e w1 ⟨rfl, hb1⟩
        have hB1 := then_ HB.out hb1 HB.out.size
        have hsz := hB1.size
        have HO1 := hide (own_below HO.out hb1)
        have HB1 := hide hB1
        clear hb1 hB1
        go_wp2_with (at_builtin; refine wpList_push w1 rfl (.tmp 23) (.tmp 25) 24 rfl w.heap.size 3 _ 1 8 Tryd.underlying24 info_i rfl (by omega) A' L.length c' _ [.int .i64 (k : Int)] rfl HO1.out rfl rfl (by simp [Value.oneCell']) (by omega) (by omega) hsz ?_; intro A'' c'' w2 hc1 hown1 hg1 _)
        refine ⟨⟨k + 1, A'', c'', by omega, by go_num, ?_, ?_, ?_, HB1.out.trans (grown_below HO1.out hg1 hsz)⟩, by simp [intOf]; omega⟩
        all_goals rw [HM.out]
        · simp
        · simpa using hc1
        · have := hown1
          simpa [iC] using this
    · obtain rfl : k = l.length := by omega
      rw [← HQ.out] at HO hkc ⊢
      clear hb
      go_wp2_with fail
      go_ret
      exact ⟨_, _, rfl, hkc, HO.out, HB.out⟩
end Go.Proofs.YtlhhdpjnoainiabDoor
