/- What the program's small functions on texts give (within, onlyOf), and what Split gives at the byte 47; each contract says for which arguments. -/
import Derived.Test.YtmjmjloiblbhcaaDoorProg
import Derived.Test.YtmjmjloiblbhcaaDoorShelf
import Derived.Test.YtmjmjloiblbhcaaDoorK0
import Derived.Test.YtmjmjloiblbhcaaDoorMem
import Derived.Test.YtmjmjloiblbhcaaDoorQ3
import Derived.Deep.QuietTactic
import Derived.BigQuiet
namespace Go.Proofs.YtmjmjloiblbhcaaDoor
open Go.RowKit
set_option maxRecDepth 100000
set_option maxHeartbeats 400000
/-- the library's variable MaxLen holds some number -/
def GM (w : World) : Prop := ∃ m, w.cell? ⟨0, 0, none⟩ = some (.int .i64 m)
theorem GM.pos {w : World} (h : GM w) : 0 < w.heap.size := by
  obtain ⟨m, hm⟩ := h
  exact World.block_lt_of_cell? w _ hm
theorem GM.below {B : Nat} {w w' : World} (h : GM w) (hb : Below B w w') (hB : 0 < B) : GM w' := by
  obtain ⟨m, hm⟩ := h
  exact ⟨m, by rw [hb.cell hB]; exact hm⟩
theorem GM.up {w w' : World} (h : GM w) (hb : Below w.heap.size w w') : GM w' := h.below hb h.pos
theorem allB_bad {f : UInt8 → Bool} {s : ByteArray} {k : Nat} (hk : k < s.size) (h : f s[k] = false) : allB f s = false := by
  cases e : allB f s with
  | false => rfl
  | true =>
    have := List.all_eq_true.1 e s[k] (by have : s[k] = s.data.toList[k]'(by simpa using hk) := rfl
                                          rw [this]; exact List.getElem_mem _)
    rw [h] at this; cases this
theorem allB_all {f : UInt8 → Bool} {s : ByteArray} (h : ∀ j (hj : j < s.size), f s[j] = true) : allB f s = true := by
  unfold allB
  rw [List.all_eq_true]
  intro x hx
  obtain ⟨j, hj, rfl⟩ := List.getElem_of_mem hx
  exact h j (by simpa using hj)
theorem onlyOf_c (s al : ByteArray) (f : UInt8 → Bool) (hf : ∀ b, decide (Lib.indexByte al.data.toList b < 0) = !f b) (hs : s.size ≤ 9223372036854775807) (w : World) :
    Calls Tryd.prog 85 #[.string s, .string al] w (Pure (.bool (allB f s)) w) := by
  have HF := hide hf
  clear hf
  go_enter Tryd.func85, Tryd.ntmps85
  go_wp2_with fail
  go_loop [5, 8] (fun _ i => ∃ k : Nat, k ≤ s.size ∧ i = .int .i64 k ∧ ∀ j (hj : j < s.size), j < k → f s[j] = true) (fun _ i => s.size - (intOf i).toNat)
  case atStart => exact ⟨0, by omega, rfl, fun j _ hj => by omega⟩
  case round =>
    obtain ⟨k, hk, rfl, hne⟩ := hrel
    have HNE := hide hne
    clear hne
    by_cases hlt : k < s.size
    · have hc := Tryd.strings_IndexByte al (s[k].toNat : Int) w
      rw [byte_back] at hc
      cases hq : f s[k]
      · have hx : Lib.indexByte al.data.toList s[k] < 0 := by have := HF.out s[k]; rw [hq] at this; simpa using this
        have HQ := hide (allB_bad hlt hq)
        clear hq
        go_wp2_with fail
        refine hc.mono ?_
        rintro e w' ⟨rfl, rfl⟩
        go_wp2_with fail
        go_ret
        exact ⟨by rw [HQ.out]; rfl, rfl⟩
      · have hx : ¬ Lib.indexByte al.data.toList s[k] < 0 := by have := HF.out s[k]; rw [hq] at this; simpa using this
        have HQ := hide hq
        clear hq
        go_wp2_with fail
        refine hc.mono ?_
        rintro e w' ⟨rfl, rfl⟩
        go_wp2_with fail
        go_round
        case rel => exact ⟨k + 1, by omega, by go_num, fun j hj hjk => by
          by_cases e : j = k
          · subst e; exact HQ.out
          · exact HNE.out j hj (by omega)⟩
        case measure => simp [intOf]; omega
    · have HQ : Hid (allB f s = true) := allB_all fun j hj => HNE.out j hj (by omega)
      go_wp2_with fail
      go_ret
      exact ⟨by rw [HQ.out]; rfl, rfl⟩
def nameL : List UInt8 := [97, 98, 99, 100, 101, 102, 103, 104, 105, 106, 107, 108, 109, 110, 111, 112, 113, 114, 115, 116, 117, 118, 119, 120, 121, 122, 48, 49, 50, 51, 52, 53, 54, 55, 56, 57]
theorem u8_all {p : UInt8 → Prop} (h : ∀ n, n < 256 → p (UInt8.ofNat n)) (b : UInt8) : p b := by
  have := h b.toNat b.toNat_lt
  simpa using this
theorem nameL_idx (b : UInt8) : decide (Lib.indexByte nameL b < 0) = !nameByte b := u8_all (p := fun b => decide (Lib.indexByte nameL b < 0) = !nameByte b) (by decide +kernel) b
theorem segL_idx (b : UInt8) : decide (Lib.indexByte (nameL ++ [45]) b < 0) = !segByte b := u8_all (p := fun b => decide (Lib.indexByte (nameL ++ [45]) b < 0) = !segByte b) (by decide +kernel) b
theorem onlyName_c (s : ByteArray) (hs : s.size ≤ 9223372036854775807) (w : World) :
    Calls Tryd.prog 85 #[.string s, .string { data := #[97, 98, 99, 100, 101, 102, 103, 104, 105, 106, 107, 108, 109, 110, 111, 112, 113, 114, 115, 116, 117, 118, 119, 120, 121, 122, 48, 49, 50, 51, 52, 53, 54, 55, 56, 57] }] w (Pure (.bool (allB nameByte s)) w) := onlyOf_c s _ _ nameL_idx hs w
theorem onlySeg_c (s : ByteArray) (hs : s.size ≤ 9223372036854775807) (w : World) :
    Calls Tryd.prog 85 #[.string s, .string { data := #[97, 98, 99, 100, 101, 102, 103, 104, 105, 106, 107, 108, 109, 110, 111, 112, 113, 114, 115, 116, 117, 118, 119, 120, 121, 122, 48, 49, 50, 51, 52, 53, 54, 55, 56, 57, 45] }] w (Pure (.bool (allB segByte s)) w) := onlyOf_c s _ _ segL_idx hs w
/-- strings.Split at the byte 47 -/
theorem split_c (s : ByteArray) (w : World) (hg : GM w) (hs : s.size < 4294967281) :
    Calls Tryd.prog 34 #[.string s, .string { data := #[47] }] w (RetRow 9 1 (prt 47 s).length (sC (prt 47 s)) w) := by
  obtain ⟨m, hm⟩ := hg
  have hle := prt_length_le 47 s
  refine (Tryd.strings_Split s { data := #[47] } m w hs hm (by decide)).mono ?_
  rintro e w' ⟨rfl, rfl⟩
  rw [splitB_prt 47 s _ rfl, countB_prt 47 s _ rfl]
  refine ⟨_, _, rfl, Nat.le_refl _, ?_, (Below.refl _ _).alloc (Nat.le_refl _) _⟩
  have h := World.ownsRow_lit (e := 9) (size := 1) (base := w.heap.size) w ((prt 47 s).map Value.string).toArray (prt 47 s).length (Nat.le_refl _) (by simp only [maxLen]; omega) (by simp)
  exact h
end Go.Proofs.YtmjmjloiblbhcaaDoor
