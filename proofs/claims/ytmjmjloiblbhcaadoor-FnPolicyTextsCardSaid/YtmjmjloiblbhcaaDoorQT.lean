/- Texts of policies; there is no program here and no condition. -/
import Derived.Test.YtmjmjloiblbhcaaDoorQ4
import Derived.Test.YtmjmjloiblbhcaaDoorCR
import Derived.Test.YtmjmjloiblbhcaaDoorQ6
namespace Go.Proofs.YtmjmjloiblbhcaaDoor
/-- the line of a rule -/
def lineL (r : Rl) : List UInt8 := r.1.data.toList ++ 32 :: (capsT r.2.toNat ++ [10])
def textL (rs : List Rl) : List UInt8 := (rs.map lineL).flatten
def textB (rs : List Rl) : ByteArray := ⟨(textL rs).toArray⟩
theorem textL_nil : textL [] = [] := rfl
theorem textL_append (a b : List Rl) : textL (a ++ b) = textL a ++ textL b := by simp [textL]
theorem textL_take {rs : List Rl} {k : Nat} (h : k < rs.length) : textL (rs.take (k + 1)) = textL (rs.take k) ++ lineL rs[k] := by
  rw [List.take_succ_eq_append_getElem h, textL_append]
  simp [textL]
theorem line_data (r : Rl) : (((r.1 ++ ⟨#[32]⟩) ++ capsB r.2.toNat) ++ ⟨#[10]⟩ : ByteArray).data.toList = lineL r := by
  simp [lineL, capsB, ByteArray.data_append]
theorem textB_take {rs : List Rl} {k : Nat} (h : k < rs.length) : textB (rs.take (k + 1)) = (((textB (rs.take k) ++ rs[k].1) ++ ⟨#[32]⟩) ++ capsB rs[k].2.toNat) ++ ⟨#[10]⟩ := by
  apply ext_data
  show (textL (rs.take (k + 1))) = _
  rw [textL_take h]
  simp [lineL, capsB, textB, ByteArray.data_append]
theorem capsT_length (n : Nat) : (capsT n).length ≤ 6 := (capsB_size n).2
theorem line_length (r : Rl) : (lineL r).length ≤ r.1.size + 8 := by
  have := capsT_length r.2.toNat
  have hs : r.1.data.toList.length = r.1.size := rfl
  simp only [lineL, List.length_append, List.length_cons, List.length_nil]
  omega
theorem text_length {rs : List Rl} (h : ∀ r ∈ rs, r.1.size ≤ 120) : (textL rs).length ≤ 128 * rs.length := by
  induction rs with
  | nil => simp [textL]
  | cons r t ih =>
    have h1 := ih fun x hx => h x (List.mem_cons_of_mem _ hx)
    have h2 := line_length r
    have h3 := h r (by simp)
    rw [show textL (r :: t) = lineL r ++ textL t from by simp [textL]]
    simp only [List.length_append, List.length_cons]
    omega
theorem text_take_le (rs : List Rl) (k : Nat) : (textL (rs.take k)).length ≤ (textL rs).length := by
  conv => rhs; rw [← List.take_append_drop k rs, textL_append, List.length_append]
  omega
theorem textB_size (rs : List Rl) : (textB rs).size = (textL rs).length := rfl
theorem pol_short {nm : ByteArray} {rs : List Rl} (hp : polB nm rs = true) {x : Rl} (hx : x ∈ rs) : x.1.size ≤ 120 ∧ 0 ≤ x.2 ∧ x.2 ≤ 63 := ⟨(globB_true.1 (pol_glob hp hx)).1, pol_caps hp hx⟩
end Go.Proofs.YtmjmjloiblbhcaaDoor
