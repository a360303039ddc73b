/- What the laws' helpers on slices of policies give (sized, copied, equal); each contract says for which arguments. -/
import Derived.Test.YtmjmjloiblbhcaaDoorC4
import Derived.Test.YtmjmjloiblbhcaaDoorCP
namespace Go.Proofs.YtmjmjloiblbhcaaDoor
open Go.RowKit
set_option maxRecDepth 100000
set_option maxHeartbeats 400000
/-- the letters and rules of policies -/
def szPl : List Pl → Nat
  | [] => 0
  | x :: t => szP x.1 x.2 + szPl t
theorem szPl_append : ∀ a b : List Pl, szPl (a ++ b) = szPl a + szPl b
  | [], b => by simp [szPl]
  | x :: a, b => by show szP x.1 x.2 + szPl (a ++ b) = szP x.1 x.2 + szPl a + szPl b; rw [szPl_append a b]; omega
theorem szPl_take {l : List Pl} {k : Nat} (hk : k < l.length) : szPl (l.take (k + 1)) = szPl (l.take k) + szP l[k].1 l[k].2 := by
  rw [List.take_succ_eq_append_getElem hk, szPl_append]; rfl
theorem szPl_le {l : List Pl} (k : Nat) : szPl (l.take k) ≤ szPl l := by
  conv => rhs; rw [← List.take_append_drop k l, szPl_append]
  omega
theorem szPl_each {l : List Pl} {x : Pl} (h : x ∈ l) : szP x.1 x.2 ≤ szPl l := by
  induction l with
  | nil => simp at h
  | cons y t ih =>
    show _ ≤ szP y.1 y.2 + szPl t
    rcases List.mem_cons.1 h with rfl | h
    · omega
    · have := ih h; omega
theorem info_p : (Tryd.prog.info? 26).map (fun i => (i.zero, i.size, i.bytes)) = some (some (.agg #[.string ⟨#[]⟩, .slice none 0 0]), 2, 40) := by kernel_rfl
/-- a slice of policies in new memory -/
def RetPls (l : List Pl) (w : World) (en : Ending) (w' : World) : Prop :=
  ∃ A c, en = .returned (.slice A l.length c) ∧ l.length ≤ c ∧ PlR w' w'.heap.size A l.length l ∧ Below w.heap.size w w'
end Go.Proofs.YtmjmjloiblbhcaaDoor
