/- The three facts that every row of this seat asks of the translation's first row (mayEnter, liftsFinal, make), proved word by word; there is no condition. -/
import Derived.Test.YtgkjgaijjihmgaaRows
import Derived.ProofKit
namespace Go.Proofs.Ytgkjgaijjihmgaa
theorem wordsSigns_word (l r : List Char) (h : ∀ c ∈ l, c ≠ Char.ofNat 32) : wordsSigns (l ++ Char.ofNat 32 :: r) = l :: wordsSigns r := by
  induction l with
  | nil => rfl
  | cons c l ih =>
    have ih' := ih fun d hd => h d (List.mem_cons_of_mem _ hd)
    have hc : c ≠ Char.ofNat 32 := h c List.mem_cons_self
    show wordsSigns (c :: (l ++ Char.ofNat 32 :: r)) = _
    rw [wordsSigns, ih']
    exact fun e => hc e
def headA : List Nat := [104, 97, 114, 110, 101, 115, 115]
def headB : List Nat := [56, 99, 101, 51, 98, 56, 51, 102, 55, 54, 51, 50, 50, 54, 53, 100, 56, 99, 100, 54, 55, 56, 51, 49, 97, 100, 48, 100, 97, 101, 54, 56, 98, 57, 99, 100, 100, 99, 101, 57, 102, 55, 54, 51, 101, 55, 98, 53, 49, 97, 102, 100, 48, 48, 102, 48, 54, 49, 57, 57, 49, 102, 98, 54]
def headC : List Nat := [99, 117, 116]
def headD : List Nat := [97, 116, 32, 108, 111, 111, 112, 46, 101, 120, 97, 109, 112, 108, 101, 47, 103, 48, 48, 55, 48, 53, 47, 108, 97, 119, 115, 46, 70, 110, 83, 104, 97, 114, 101, 115, 32, 108, 111, 111, 112, 46, 101, 120, 97, 109, 112, 108, 101, 47, 103, 48, 48, 55, 48, 53, 47, 108, 97, 119, 115, 46, 70, 110, 85, 110, 115, 101, 97, 108, 32, 108, 111, 111, 112, 46, 101, 120, 97, 109, 112, 108, 101, 47, 103, 48, 48, 55, 48, 53, 47, 108, 97, 119, 115, 46, 70, 110, 69, 120, 97, 99, 116, 71, 105, 118, 101, 83, 104, 97, 114, 101]
def signs (l : List Nat) : List Char := l.map Char.ofNat
theorem head_eq : Try.prog.initOrder = String.ofList (signs headA ++ Char.ofNat 32 :: (signs headB ++ Char.ofNat 32 :: (signs headC ++ Char.ofNat 32 :: signs headD))) := by kernel_rfl
theorem no_blank {l : List Nat} (h : l.all (fun n => Char.ofNat n != Char.ofNat 32) = true) : ∀ c ∈ signs l, c ≠ Char.ofNat 32 := by
  intro c hc
  obtain ⟨n, hn, rfl⟩ := List.mem_map.1 hc
  have := List.all_eq_true.1 h n hn
  simpa using this
theorem head_words : wordsSigns Try.prog.initOrder.toList = signs headA :: signs headB :: signs headC :: wordsSigns (signs headD) := by
  rw [head_eq, String.toList_ofList, wordsSigns_word _ _ (no_blank (by decide +kernel)), wordsSigns_word _ _ (no_blank (by decide +kernel)), wordsSigns_word _ _ (no_blank (by decide +kernel))]
theorem beh (ws : List (List Char)) : behindMainWord (signs headA :: signs headB :: signs headC :: ws) = signs headC :: ws := by kernel_rfl
theorem strip (ws : List (List Char)) : stripLifts liftWords (signs headC :: ws) = ([], signs headC :: ws) := by kernel_rfl
theorem c_gc : (signs headC == "gc".toList) = false := by kernel_rfl
theorem c_spec : (signs headC == "spec".toList) = false := by kernel_rfl
theorem c_carried' : (some (signs headC) == some "carried".toList) = false := by kernel_rfl
theorem c_cut : (signs headC == "cut".toList) = true := by kernel_rfl
theorem c_cut' : (some (signs headC) == some "cut".toList) = true := by kernel_rfl
theorem lays : Try.prog.laysLater = false := by kernel_rfl
theorem bears : Try.prog.bearsReflect = false := by kernel_rfl
theorem door : Try.prog.doorFits [] = true := by kernel_rfl
theorem beh_prog : behindMainWord (wordsSigns Try.prog.initOrder.toList) = signs headC :: wordsSigns (signs headD) := by rw [head_words, beh]
theorem mayEnter_of {P : Program} {C : List Char} {ws : List (List Char)} (h : behindMainWord (wordsSigns P.initOrder.toList) = C :: ws) (hs : stripLifts liftWords (C :: ws) = ([], C :: ws))
    (hl : P.laysLater = false) (hb : P.bearsReflect = false) (hd : P.doorFits [] = true) (c1 : (some C == some "cut".toList) = true) : P.mayEnter = true := by
  unfold Program.mayEnter
  rw [h]
  simp only [hs, List.head?_cons, c1, hl, hb, hd, Bool.true_and, Bool.and_true, Bool.not_false, Bool.or_true]
  simp
theorem headLifts_of {P : Program} {C : List Char} {ws : List (List Char)} (h : behindMainWord (wordsSigns P.initOrder.toList) = C :: ws) (hs : stripLifts liftWords (C :: ws) = ([], C :: ws)) : P.headLifts = [] := by
  unfold Program.headLifts
  rw [h]
  simp only [hs]
  split <;> rfl
theorem liftsFinal_of {P : Program} {C : List Char} {ws : List (List Char)} (h : behindMainWord (wordsSigns P.initOrder.toList) = C :: ws) (hs : P.headLifts = [])
    (c1 : (some C == some "carried".toList) = false) : P.liftsFinal = false := by
  unfold Program.liftsFinal
  rw [h]
  simp only [hs, List.head?_cons, c1, Bool.false_and, Bool.false_or]
  rfl
theorem make_of {P : Program} {C : List Char} {ws : List (List Char)} (h : behindMainWord (wordsSigns P.initOrder.toList) = C :: ws)
    (c1 : (C == "gc".toList) = false) (c2 : (C == "spec".toList) = false) (c3 : (C == "cut".toList) = true) : P.make = some .cut := by
  unfold Program.make
  rw [h]
  simp only [c1, c2, c3, Bool.or_false, Bool.true_or, if_true, Bool.false_eq_true, if_false]
theorem lifts0 : Try.prog.headLifts = [] := headLifts_of beh_prog (strip _)
theorem may_enter : Try.prog.mayEnter = true := mayEnter_of beh_prog (strip _) lays bears door c_cut'
theorem lifts_final : Try.prog.liftsFinal = false := liftsFinal_of beh_prog lifts0 c_carried'
theorem made : Try.prog.make = some .cut := make_of beh_prog c_gc c_spec c_cut
theorem own : ownKnob Try.prog.godebug = none := by kernel_rfl
theorem laidOut : laidOutB Try.prog = true := by kernel_rfl
end Go.Proofs.Ytgkjgaijjihmgaa
