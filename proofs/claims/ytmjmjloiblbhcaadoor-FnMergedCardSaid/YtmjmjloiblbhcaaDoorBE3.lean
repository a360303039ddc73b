/- Drawn policies; each contract says for which arguments. -/
import Derived.Test.YtmjmjloiblbhcaaDoorBE2
import Derived.Test.YtmjmjloiblbhcaaDoorC9
namespace Go.Proofs.YtmjmjloiblbhcaaDoor
open Go.RowKit
set_option maxRecDepth 100000
set_option maxHeartbeats 1000000
/-- cells that read as policies; their rules lie below hi -/
def PlC (w : World) (hi : Nat) (cs : List Value) (ps : List Pl) : Prop :=
  cs.length = ps.length * 2 ∧ ∀ j (hj : j < ps.length), ∃ Aj cj, cs[j * 2]? = some (.string ps[j].1) ∧ cs[j * 2 + 1]? = some (.slice Aj ps[j].2.length cj) ∧ Rd w hi 2 Aj ps[j].2.length (rC ps[j].2)
theorem PlC.nil (w : World) (hi : Nat) : PlC w hi [] [] := ⟨rfl, fun j hj => by simp at hj⟩
theorem PlC.keep {w w' : World} {hi : Nat} {cs : List Value} {ps : List Pl} (h : PlC w hi cs ps) (hk : ∀ b, b < hi → w'.heap[b]? = w.heap[b]?) : PlC w' hi cs ps :=
  ⟨h.1, fun j hj => by obtain ⟨Aj, cj, h1, h2, h3⟩ := h.2 j hj; exact ⟨Aj, cj, h1, h2, h3.keep hk⟩⟩
theorem PlC.mono {w : World} {hi hi' : Nat} {cs : List Value} {ps : List Pl} (h : PlC w hi cs ps) (hh : hi ≤ hi') : PlC w hi' cs ps :=
  ⟨h.1, fun j hj => by obtain ⟨Aj, cj, h1, h2, h3⟩ := h.2 j hj; exact ⟨Aj, cj, h1, h2, h3.mono hh⟩⟩
theorem PlC.below {w w' : World} {hi b : Nat} {cs : List Value} {ps : List Pl} (h : PlC w hi cs ps) (hb : Below b w w') (hh : hi ≤ b) : PlC w' hi cs ps := h.keep fun k hk => hb.block k (by omega)
theorem PlC.snoc {w : World} {hi : Nat} {cs : List Value} {ps : List Pl} (h : PlC w hi cs ps) (nm : ByteArray) (A : Option Addr) (c : Nat) (rs : List Rl) (hr : Rd w hi 2 A rs.length (rC rs)) : PlC w hi (cs ++ [.string nm, .slice A rs.length c]) (ps ++ [(nm, rs)]) := by
  have hl := h.1
  refine ⟨by simp; omega, fun j hj => ?_⟩
  by_cases e : j < ps.length
  · obtain ⟨Aj, cj, h1, h2, h3⟩ := h.2 j e
    rw [List.getElem_append_left e]
    exact ⟨Aj, cj, by rw [List.getElem?_append_left (by omega)]; exact h1, by rw [List.getElem?_append_left (by omega)]; exact h2, h3⟩
  · have e2 : j = ps.length := by simp at hj; omega
    subst e2
    rw [List.getElem_append_right (Nat.le_refl _)]
    refine ⟨A, c, ?_, ?_, ?_⟩
    · rw [List.getElem?_append_right (by omega), show ps.length * 2 - cs.length = 0 from by omega]; simp
    · rw [List.getElem?_append_right (by omega), show ps.length * 2 + 1 - cs.length = 1 from by omega]; simp
    · simpa using hr
theorem PlC.plr {w : World} {base n c : Nat} {A : Option Addr} {cs : List Value} {ps : List Pl} (h : PlC w w.heap.size cs ps) (ho : w.ownsRow base 26 2 (.slice A n c) n cs) (hn : n ≤ 1048576) (hl : ps.length = n) : PlR w w.heap.size A n ps := by
  refine ⟨hl, by omega, fun hpos => ?_⟩
  obtain ⟨g, rfl, hg⟩ := own_some ho hpos
  refine ⟨g, 0, rfl, (own_base ho).2, fun j hj => ?_⟩
  obtain ⟨Aj, cj, h1, h2, h3⟩ := h.2 j hj
  refine ⟨Aj, cj, ?_, ?_, h3⟩
  · rw [Nat.zero_add, ho.cellAt (j * 2) (by omega)]; exact h1
  · rw [Nat.zero_add, ho.cellAt (j * 2 + 1) (by omega)]; exact h2
/-- policies in rows of the call's own -/
def PlO (w : World) (base : Nat) (A : Option Addr) (n c : Nat) (ps : List Pl) : Prop :=
  ps.length = n ∧ ∃ cs : List Value, w.ownsRow base 26 2 (.slice A n c) n cs ∧ ∀ j (hj : j < ps.length), ∃ Aj cj, cs[j * 2]? = some (.string ps[j].1) ∧ cs[j * 2 + 1]? = some (.slice Aj ps[j].2.length cj) ∧ w.ownsRow base 53 2 (.slice Aj ps[j].2.length cj) ps[j].2.length (rC ps[j].2)
theorem PlO.tch {w w' : World} {base n c B : Nat} {A : Option Addr} {ps : List Pl} (h : PlO w base A n c ps) (k : Tch B (B + 1) w w') (hB : B < base) : PlO w' base A n c ps := by
  obtain ⟨h1, cs, h2, h3⟩ := h
  refine ⟨h1, cs, own_tch h2 k hB, fun j hj => ?_⟩
  obtain ⟨Aj, cj, e1, e2, e3⟩ := h3 j hj
  exact ⟨Aj, cj, e1, e2, own_tch e3 k hB⟩
theorem PlO.below {w w' : World} {base n c : Nat} {A : Option Addr} {ps : List Pl} (h : PlO w base A n c ps) (k : Below w.heap.size w w') : PlO w' base A n c ps := by
  obtain ⟨h1, cs, h2, h3⟩ := h
  refine ⟨h1, cs, own_below h2 k, fun j hj => ?_⟩
  obtain ⟨Aj, cj, e1, e2, e3⟩ := h3 j hj
  exact ⟨Aj, cj, e1, e2, own_below e3 k⟩
theorem PlO.plr {w : World} {base n c : Nat} {A : Option Addr} {ps : List Pl} (h : PlO w base A n c ps) (hn : n ≤ 1048576) : PlR w w.heap.size A n ps := by
  obtain ⟨h1, cs, h2, h3⟩ := h
  refine PlC.plr (cs := cs) ⟨by have := h2.1; omega, fun j hj => ?_⟩ h2 hn h1
  obtain ⟨Aj, cj, e1, e2, e3⟩ := h3 j hj
  exact ⟨Aj, cj, e1, e2, own_rd e3⟩
theorem own_type' {w : World} {base e size n c : Nat} {a : Addr} {xs : List Value} (h : w.ownsRow base e size (.slice (some a) n c) n xs) : ∃ cur, w.heap[a.block]? = some (.cells cur e (0, 0)) ∧ base ≤ a.block := by
  rcases h.2 with ⟨h0, _⟩ | ⟨g, cap, cur, hv, hb, hg, _⟩
  · cases h0
  · injection hv with hv
    injection hv with hv
    subst hv
    exact ⟨cur, hg, hb⟩
theorem own_kept {w w' : World} {base e e' size n c n' c' : Nat} {A A' : Option Addr} {xs xs' : List Value} (h : w.ownsRow base e size (.slice A n c) n xs) {b' s' : Nat} (ho : w.ownsRow b' e' s' (.slice A' n' c') n' xs') (hne : e ≠ e') (hg : w.grownBy w' (Value.slice A' n' c').ownBlock) : w'.ownsRow base e size (.slice A n c) n xs := by
  refine h.kept hg ?_
  cases A with
  | none => left; rfl
  | some a =>
    right
    obtain ⟨cur, hcur, _⟩ := own_type' h
    cases A' with
    | none => simp [Value.ownBlock]
    | some a' =>
      obtain ⟨cur', hcur', _⟩ := own_type' ho
      simp only [Value.ownBlock, ne_eq, Option.some.injEq]
      intro hab
      rw [hab, hcur'] at hcur
      injection hcur with hcur
      injection hcur with _ h4
      exact hne h4.symm
theorem PlO.push {w w' : World} {base n c c' : Nat} {A A' : Option Addr} {ps : List Pl} {cs : List Value} {nm : ByteArray} {A5 : Option Addr} {c5 : Nat} {rs : List Rl}
    (h1 : ps.length = n) (h2 : w.ownsRow base 26 2 (.slice A n c) n cs) (h3 : ∀ j (hj : j < ps.length), ∃ Aj cj, cs[j * 2]? = some (.string ps[j].1) ∧ cs[j * 2 + 1]? = some (.slice Aj ps[j].2.length cj) ∧ w.ownsRow base 53 2 (.slice Aj ps[j].2.length cj) ps[j].2.length (rC ps[j].2))
    (hr : w.ownsRow base 53 2 (.slice A5 rs.length c5) rs.length (rC rs)) (hg : w.grownBy w' (Value.slice A n c).ownBlock) (hn : w'.ownsRow base 26 2 (.slice A' (n + 1) c') (n + 1) (cs ++ [.string nm, .slice A5 rs.length c5])) : PlO w' base A' (n + 1) c' (ps ++ [(nm, rs)]) := by
  have hl := h2.1
  refine ⟨by simp; omega, _, hn, fun j hj => ?_⟩
  by_cases e : j < ps.length
  · obtain ⟨Aj, cj, e1, e2, e3⟩ := h3 j e
    rw [List.getElem_append_left e]
    exact ⟨Aj, cj, by rw [List.getElem?_append_left (by omega)]; exact e1, by rw [List.getElem?_append_left (by omega)]; exact e2, own_kept e3 h2 (by decide) hg⟩
  · have e2 : j = ps.length := by simp at hj; omega
    subst e2
    rw [List.getElem_append_right (Nat.le_refl _)]
    refine ⟨A5, c5, ?_, ?_, ?_⟩
    · rw [List.getElem?_append_right (by omega), show ps.length * 2 - cs.length = 0 from by omega]; simp
    · rw [List.getElem?_append_right (by omega), show ps.length * 2 + 1 - cs.length = 1 from by omega]; simp
    · simpa using own_kept hr h2 (by decide) hg
/-- of drawn policies: names, rules and globs are short -/
def PlS (ps : List Pl) : Prop := ∀ x ∈ ps, x.1.size ≤ 13 ∧ x.2.length ≤ 64 ∧ ∀ r ∈ x.2, r.1.size ≤ 200
/-- policies in new memory, the cursor gone on -/
def CurPls (base B : Nat) (w : World) (en : Ending) (w' : World) : Prop :=
  ∃ (A : Option Addr) (n c : Nat) (ps : List Pl), n ≤ 11 ∧ n ≤ c ∧ PlS ps ∧ en = .returned (.slice A n c) ∧ PlO w' w.heap.size A n c ps ∧ Cur w' base B ∧ Tch B (B + 1) w w'
/-- drawn policies and a drawn path, in new memory -/
def RetPlT (w : World) (en : Ending) (w' : World) : Prop :=
  ∃ (A : Option Addr) (n c : Nat) (ps : List Pl) (p : ByteArray), n ≤ 11 ∧ PlS ps ∧ p.size ≤ 200 ∧ en = .returned (.tuple #[.slice A n c, .string p]) ∧ PlR w' w'.heap.size A n ps ∧ Below w.heap.size w w'
end Go.Proofs.YtmjmjloiblbhcaaDoor
