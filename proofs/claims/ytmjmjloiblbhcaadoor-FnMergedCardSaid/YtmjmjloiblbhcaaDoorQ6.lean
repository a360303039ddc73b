/- The most specific rule for a path, and the caps of policies; plain laws; there is no program here and no condition. -/
import Derived.Test.YtmjmjloiblbhcaaDoorQ5
import Derived.Test.YtmjmjloiblbhcaaDoorCP
import Derived.Test.YtmjmjloiblbhcaaDoorB4a
namespace Go.Proofs.YtmjmjloiblbhcaaDoor
def noRule : Rl × Bool := ((⟨#[]⟩, 0), false)
def takesR (p : ByteArray) (st : Rl × Bool) (r : Rl) : Bool := coversB r.1 p && (!st.2 || decide (0 < cmpA r.1 st.1.1))
def stepR (p : ByteArray) (st : Rl × Bool) (r : Rl) : Rl × Bool := if takesR p st r then (r, true) else st
/-- the best of the first k rules -/
def ruleA (rs : List Rl) (p : ByteArray) (k : Nat) : Rl × Bool := (rs.take k).foldl (stepR p) noRule
theorem ruleA_zero (rs : List Rl) (p : ByteArray) : ruleA rs p 0 = noRule := rfl
theorem ruleA_succ {rs : List Rl} {p : ByteArray} {k : Nat} (h : k < rs.length) : ruleA rs p (k + 1) = stepR p (ruleA rs p k) rs[k] := by
  unfold ruleA
  rw [List.take_succ_eq_append_getElem h, List.foldl_append]; rfl
theorem ruleA_take {rs : List Rl} {p : ByteArray} {k : Nat} (h : k < rs.length) (ht : takesR p (ruleA rs p k) rs[k] = true) : ruleA rs p (k + 1) = (rs[k], true) := by
  rw [ruleA_succ h, stepR, if_pos ht]
theorem ruleA_keep {rs : List Rl} {p : ByteArray} {k : Nat} (h : k < rs.length) (ht : takesR p (ruleA rs p k) rs[k] = false) : ruleA rs p (k + 1) = ruleA rs p k := by
  rw [ruleA_succ h, stepR, if_neg (by rw [ht]; simp)]
theorem ruleA_mem (rs : List Rl) (p : ByteArray) : ∀ k, k ≤ rs.length → (ruleA rs p k).2 = true → (ruleA rs p k).1 ∈ rs
  | 0, _, h => by rw [ruleA_zero] at h; cases h
  | k + 1, hk, h => by
    have hl : k < rs.length := by omega
    cases ht : takesR p (ruleA rs p k) rs[k]
    · rw [ruleA_keep hl ht] at h ⊢
      exact ruleA_mem rs p k (by omega) h
    · rw [ruleA_take hl ht]; exact List.getElem_mem hl
theorem ruleA_none (rs : List Rl) (p : ByteArray) : ∀ k, k ≤ rs.length → (ruleA rs p k).2 = false → (ruleA rs p k).1 = (⟨#[]⟩, 0)
  | 0, _, _ => rfl
  | k + 1, hk, h => by
    have hl : k < rs.length := by omega
    cases ht : takesR p (ruleA rs p k) rs[k]
    · rw [ruleA_keep hl ht] at h ⊢
      exact ruleA_none rs p k (by omega) h
    · rw [ruleA_take hl ht] at h; cases h
def rfA (nm : ByteArray) (rs : List Rl) (p : ByteArray) : Rl × Bool := if polB nm rs && pathB p then ruleA rs p rs.length else noRule
theorem pol_glob {nm : ByteArray} {rs : List Rl} (hp : polB nm rs = true) {x : Rl} (hx : x ∈ rs) : globB x.1 = true := by
  obtain ⟨k, hk, rfl⟩ := List.getElem_of_mem hx
  exact (pol_rule hp hk).1
theorem pol_caps {nm : ByteArray} {rs : List Rl} (hp : polB nm rs = true) {x : Rl} (hx : x ∈ rs) : 0 ≤ x.2 ∧ x.2 ≤ 63 := by
  obtain ⟨k, hk, rfl⟩ := List.getElem_of_mem hx
  exact (pol_rule hp hk).2
end Go.Proofs.YtmjmjloiblbhcaaDoor
