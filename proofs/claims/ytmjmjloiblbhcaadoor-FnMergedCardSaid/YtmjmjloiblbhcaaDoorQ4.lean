/- The letters of caps and the caps of letters; plain laws; there is no program here and no condition. -/
import Derived.Test.YtmjmjloiblbhcaaDoorQ1
import Derived.Lib.Bytealg
namespace Go.Proofs.YtmjmjloiblbhcaaDoor
/-- the letters of the bits -/
def letters : List UInt8 := [114, 119, 108, 100, 115, 110]
/-- the letters of the bits of caps below k -/
def capsL (caps : Nat) : Nat → List UInt8
  | 0 => []
  | k + 1 => if caps.testBit k then capsL caps k ++ [letters.getD k 0] else capsL caps k
def capsT (caps : Nat) : List UInt8 := if capsL caps 6 = [] then [45] else capsL caps 6
def capsB (caps : Nat) : ByteArray := ⟨(capsT caps).toArray⟩
/-- the caps with some letters -/
def bitOf (b : UInt8) : Nat := if 0 ≤ Lib.indexByte letters b then 2 ^ (Lib.indexByte letters b).toNat else 0
def parseL (l : List UInt8) : Nat := l.foldl (fun c b => c ||| bitOf b) 0
theorem indexByte_lt (c : UInt8) : ∀ (l : List UInt8), Lib.indexByte l c < l.length
  | [] => by simp [Lib.indexByte]
  | b :: l => by
    have ih := indexByte_lt c l
    have hg := Lib.indexByte_ge l c
    unfold Lib.indexByte
    split
    · simp only [List.length_cons]; omega
    · split
      · simp only [List.length_cons]; omega
      · simp only [List.length_cons]; omega
theorem bitOf_lt (b : UInt8) : bitOf b < 64 := by
  unfold bitOf
  split
  · have := indexByte_lt b letters
    have h6 : letters.length = 6 := rfl
    have : (Lib.indexByte letters b).toNat ≤ 5 := by omega
    calc 2 ^ (Lib.indexByte letters b).toNat ≤ 2 ^ 5 := Nat.pow_le_pow_right (by decide) this
      _ < 64 := by decide
  · decide
theorem parse_lt_from (l : List UInt8) : ∀ c, c < 64 → l.foldl (fun c b => c ||| bitOf b) c < 64 := by
  induction l with
  | nil => intro c h; exact h
  | cons b t ih => intro c h; exact ih _ (Nat.or_lt_two_pow (n := 6) h (bitOf_lt b))
theorem parseL_lt (l : List UInt8) : parseL l < 64 := parse_lt_from l 0 (by decide)
theorem parse_caps : ∀ c, c < 64 → parseL (capsT c) = c := by decide
/-- what the caps of a text are -/
def parseB (s : ByteArray) : Nat × Bool := if capsB (parseL s.data.toList) = s then (parseL s.data.toList, true) else (0, false)
theorem parseB_hit {s : ByteArray} {c : Nat} (hc : c < 64) (h : capsB c = s) : parseB s = (c, true) := by
  subst h
  have h1 : parseL (capsB c).data.toList = c := parse_caps c hc
  unfold parseB
  rw [h1, if_pos rfl]
theorem parseB_miss {s : ByteArray} (h : ∀ c, c < 64 → capsB c ≠ s) : parseB s = (0, false) := by
  unfold parseB
  rw [if_neg (h _ (parseL_lt _))]
theorem parseB_caps {c : Nat} (hc : c < 64) : parseB (capsB c) = (c, true) := parseB_hit hc rfl
theorem parseB_ok {s : ByteArray} (h : (parseB s).2 = true) : capsB (parseB s).1 = s ∧ (parseB s).1 < 64 := by
  unfold parseB at *
  split at h
  · rename_i h1; rw [if_pos h1]; exact ⟨h1, parseL_lt _⟩
  · cases h
theorem capsL_size (c : Nat) : ∀ k, (capsL c k).length ≤ k
  | 0 => by simp [capsL]
  | k + 1 => by
    have := capsL_size c k
    unfold capsL
    split
    · simp; omega
    · omega
theorem capsB_size (c : Nat) : 1 ≤ (capsB c).size ∧ (capsB c).size ≤ 6 := by
  have h1 : (capsB c).size = (capsT c).length := rfl
  have := capsL_size c 6
  rw [h1]; unfold capsT
  split
  · simp
  · rename_i h; have := List.length_pos_iff.2 h; omega
theorem capsT_plain : ∀ c, c < 64 → ∀ b ∈ capsT c, b ≠ 32 ∧ b ≠ 10 := by decide
end Go.Proofs.YtmjmjloiblbhcaaDoor
