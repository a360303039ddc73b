/- Policies: when one is valid; plain laws; there is no program here and no condition. -/
import Derived.Test.YtmjmjloiblbhcaaDoorQ3
import Derived.Test.YtmjmjloiblbhcaaDoorQ4
import Derived.Test.YtmjmjloiblbhcaaDoorCR
namespace Go.Proofs.YtmjmjloiblbhcaaDoor
/-- the order of texts, as the language has it -/
def ltB (a b : ByteArray) : Bool := Op.bytesLess a.toList b.toList
def ruleOk (rs : List Rl) (k : Nat) : Bool := match rs[k]? with
  | none => true
  | some r => globB r.1 && (inB r.2 0 63 && (decide (k = 0) || match rs[k - 1]? with
    | none => true
    | some q => ltB q.1 r.1))
def polB (nm : ByteArray) (rs : List Rl) : Bool := nameB nm && (decide (rs.length ≤ 20) && (List.range rs.length).all (ruleOk rs))
theorem ruleOk_zero {rs : List Rl} (h : 0 < rs.length) : ruleOk rs 0 = (globB rs[0].1 && inB rs[0].2 0 63) := by
  unfold ruleOk; rw [List.getElem?_eq_getElem h]; simp
theorem ruleOk_succ {rs : List Rl} {k : Nat} (h : k + 1 < rs.length) : ruleOk rs (k + 1) = (globB rs[k + 1].1 && (inB rs[k + 1].2 0 63 && ltB rs[k].1 rs[k + 1].1)) := by
  unfold ruleOk; rw [List.getElem?_eq_getElem h]
  simp [List.getElem?_eq_getElem (show k < rs.length from by omega)]
theorem ruleOk_glob {rs : List Rl} {k : Nat} (h : k < rs.length) (hg : globB rs[k].1 = false) : ruleOk rs k = false := by
  unfold ruleOk; rw [List.getElem?_eq_getElem h]; simp [hg]
theorem ruleOk_caps {rs : List Rl} {k : Nat} (h : k < rs.length) (hg : inB rs[k].2 0 63 = false) : ruleOk rs k = false := by
  unfold ruleOk; rw [List.getElem?_eq_getElem h]; simp [hg]
theorem polB_true {nm : ByteArray} {rs : List Rl} : polB nm rs = true ↔ nameB nm = true ∧ rs.length ≤ 20 ∧ ∀ k, k < rs.length → ruleOk rs k = true := by
  simp [polB]
theorem polB_bad {nm : ByteArray} {rs : List Rl} {k : Nat} (hk : k < rs.length) (h : ruleOk rs k = false) : polB nm rs = false := by
  cases e : polB nm rs with
  | false => rfl
  | true => have := (polB_true.1 e).2.2 k hk; rw [h] at this; cases this
theorem polB_long {nm : ByteArray} {rs : List Rl} (h : 20 < rs.length) : polB nm rs = false := by
  cases e : polB nm rs with
  | false => rfl
  | true => have := (polB_true.1 e).2.1; omega
theorem polB_name {nm : ByteArray} {rs : List Rl} (h : nameB nm = false) : polB nm rs = false := by unfold polB; rw [h]; rfl
theorem polB_all {nm : ByteArray} {rs : List Rl} (h : ∀ k, k < rs.length → ruleOk rs k = true) : polB nm rs = (nameB nm && decide (rs.length ≤ 20)) := by
  unfold polB
  have : (List.range rs.length).all (ruleOk rs) = true := by simpa using h
  rw [this]; simp
theorem ruleOk_rule {rs : List Rl} {k : Nat} (h : k < rs.length) (ho : ruleOk rs k = true) : globB rs[k].1 = true ∧ inB rs[k].2 0 63 = true := by
  constructor
  · cases e : globB rs[k].1 with
    | true => rfl
    | false => rw [ruleOk_glob h e] at ho; cases ho
  · cases e : inB rs[k].2 0 63 with
    | true => rfl
    | false => rw [ruleOk_caps h e] at ho; cases ho
theorem pol_rule {nm : ByteArray} {rs : List Rl} (hp : polB nm rs = true) {k : Nat} (h : k < rs.length) : globB rs[k].1 = true ∧ 0 ≤ rs[k].2 ∧ rs[k].2 ≤ 63 := by
  obtain ⟨h1, h2⟩ := ruleOk_rule h ((polB_true.1 hp).2.2 k h)
  have := inB_true.1 h2
  exact ⟨h1, this.1, this.2⟩
end Go.Proofs.YtmjmjloiblbhcaaDoor
