/- Rows of rules in memory: what a slice of rules reads as; there is no program here. -/
import Derived.Test.YtmjmjloiblbhcaaDoorMemC
import Derived.Test.YtmjmjloiblbhcaaDoorQ4
namespace Go.Proofs.YtmjmjloiblbhcaaDoor
open Go.RowKit
abbrev Rl := ByteArray × Int
/-- the cells of rules -/
def rC : List Rl → List Value
  | [] => []
  | r :: t => .string r.1 :: .int .i64 r.2 :: rC t
theorem rC_length : ∀ rs : List Rl, (rC rs).length = rs.length * 2
  | [] => rfl
  | r :: t => by simp [rC, rC_length t]; omega
theorem rC_append : ∀ a b : List Rl, rC (a ++ b) = rC a ++ rC b
  | [], b => rfl
  | r :: t, b => by show .string r.1 :: .int .i64 r.2 :: rC (t ++ b) = _; rw [rC_append t b]; rfl
theorem rC_get0 : ∀ (rs : List Rl) (k : Nat) (h : k < rs.length), (rC rs)[k * 2]? = some (.string rs[k].1)
  | r :: t, 0, _ => rfl
  | r :: t, k + 1, h => by
    have e : (k + 1) * 2 = k * 2 + 1 + 1 := by omega
    rw [e]
    exact rC_get0 t k (by simpa using h)
theorem rC_get1 : ∀ (rs : List Rl) (k : Nat) (h : k < rs.length), (rC rs)[k * 2 + 1]? = some (.int .i64 rs[k].2)
  | r :: t, 0, _ => rfl
  | r :: t, k + 1, h => by
    have e : (k + 1) * 2 + 1 = k * 2 + 1 + 1 + 1 := by omega
    rw [e]
    exact rC_get1 t k (by simpa using h)
theorem rC_set : ∀ (rs : List Rl) (k : Nat) (r : Rl), rC (rs.set k r) = ((rC rs).set (k * 2) (.string r.1)).set (k * 2 + 1) (.int .i64 r.2)
  | [], _, _ => rfl
  | x :: t, 0, r => rfl
  | x :: t, k + 1, r => by
    have e : (k + 1) * 2 = k * 2 + 1 + 1 := by omega
    have e2 : (k + 1) * 2 + 1 = k * 2 + 1 + 1 + 1 := by omega
    rw [e2, e]
    show .string x.1 :: .int .i64 x.2 :: rC (t.set k r) = _
    rw [rC_set t k r]; rfl
theorem rC_take (rs : List Rl) (k : Nat) : rC (rs.take k) = (rC rs).take (k * 2) := by
  induction rs generalizing k with
  | nil => simp [rC]
  | cons r t ih =>
    cases k with
    | zero => simp [rC]
    | succ k =>
      have e : (k + 1) * 2 = k * 2 + 1 + 1 := by omega
      rw [e]
      show .string r.1 :: .int .i64 r.2 :: rC (t.take k) = _
      rw [ih k]; rfl
theorem rC_zeros (n : Nat) : rC (List.replicate n (⟨#[]⟩, 0)) = (List.replicate n [Value.string ⟨#[]⟩, Value.int .i64 0]).flatten := by
  induction n with
  | zero => rfl
  | succ n ih =>
    simp only [List.replicate_succ, List.flatten_cons, ← ih]
    rfl
theorem Rd.rule {w : World} {hi n : Nat} {A : Option Addr} {rs : List Rl} (h : Rd w hi 2 A n (rC rs)) {k : Nat} (hk : k < n) : ∃ b off, A = some ⟨b, off, none⟩ ∧ b < hi ∧ ∃ hl : k < rs.length, w.cell? ⟨b, off + k * 2, none⟩ = some (.string rs[k].1) ∧ w.cell? ⟨b, off + k * 2 + 1, none⟩ = some (.int .i64 rs[k].2) := by
  obtain ⟨h1, h2, h3⟩ := h
  obtain ⟨b, off, e, hb, hc⟩ := h3 (by omega)
  rw [rC_length] at h1
  have hl : k < rs.length := by omega
  exact ⟨b, off, e, hb, hl, hc _ _ (rC_get0 rs k hl), hc _ _ (rC_get1 rs k hl)⟩
theorem Rd.rn {w : World} {hi n : Nat} {A : Option Addr} {rs : List Rl} (h : Rd w hi 2 A n (rC rs)) : rs.length = n := by
  have := h.1; rw [rC_length] at this; omega
theorem run_make_rowN {P : Program} (t e : TypeId) (i : TypeInfo) (z : Value) (ht : P.underlying t = some (.slice e)) (hi : P.info? e = some i) (hz : i.zero = some z)
    (kl kc : IntKind) (n c : Nat) (hnc : n ≤ c) (hbytes : i.bytes * c ≤ 281474976710656) (h63 : c ≤ 9223372036854775807) (w : World) :
    (Instr.makeSlice t (.int kl (n : Int)) (.int kc (c : Int))).run P w = .ok (.slice (some ⟨w.heap.size, 0, none⟩) n c) (w.alloc (.cells (madeCells z.cells (c * i.size)) e)) := by
  have hb : (i.bytes : Int) * (c : Int) ≤ 281474976710656 := by
    have h : ((i.bytes * c : Nat) : Int) ≤ 281474976710656 := by omega
    rwa [Int.natCast_mul] at h
  have hr := run_make (P := P) w t e i z ht hi hz kl kc n c (by omega) (by omega) hb (by omega)
  simp only [Int.toNat_natCast] at hr
  exact hr
theorem made_pairs (x y : Value) (n : Nat) : (madeCells #[x, y] (n * 2)).toList = (List.replicate n [x, y]).flatten := by
  induction n with
  | zero => simp [madeCells]
  | succ n ih =>
    have e : (madeCells #[x, y] ((n + 1) * 2)).toList = (madeCells #[x, y] (n * 2)).toList ++ [x, y] := by
      rw [show (n + 1) * 2 = n * 2 + 1 + 1 from by omega]
      simp only [madeCells, Array.toList_map, Array.toList_range, List.range_succ, List.map_append, List.map_cons, List.map_nil, List.append_assoc, List.cons_append, List.nil_append]
      congr 1
      have h1 : n * 2 % 2 = 0 := by omega
      have h2 : (n * 2 + 1) % 2 = 1 := by omega
      simp [h1, h2]
    rw [e, ih, List.replicate_succ', List.flatten_append]
    simp
theorem made_rules (w : World) (e n : Nat) (hn : n ≤ 1099511627776) : (w.alloc (.cells (madeCells #[.string ⟨#[]⟩, .int .i64 0] (n * 2)) e)).ownsRow w.heap.size e 2 (.slice (some ⟨w.heap.size, 0, none⟩) n n) n (rC (List.replicate n (⟨#[]⟩, 0))) := by
  have h := World.ownsRow_lit (e := e) (size := 2) (base := w.heap.size) w (madeCells #[.string ⟨#[]⟩, .int .i64 0] (n * 2)) n (Nat.le_refl _) (by simp only [maxLen]; omega) (by rw [size_madeCells])
  rw [made_pairs, ← rC_zeros] at h
  exact h
/-- the row with one rule set -/
theorem own_rule {w : World} {base e g n cap k : Nat} {rs : List Rl} (h : w.ownsRow base e 2 (.slice (some ⟨g, 0, none⟩) n cap) n (rC rs)) (r : Rl) :
    ((w.setCell ⟨g, k * 2, none⟩ (.string r.1)).setCell ⟨g, k * 2 + 1, none⟩ (.int .i64 r.2)).ownsRow base e 2 (.slice (some ⟨g, 0, none⟩) n cap) n (rC (rs.set k r)) := by
  rw [rC_set]
  exact ((h.stored (k * 2) (.string r.1)).1.stored (k * 2 + 1) (.int .i64 r.2)).1
/-- all the letters of the globs -/
def szR : List Rl → Nat
  | [] => 0
  | r :: t => r.1.size + szR t
theorem szR_append : ∀ a b : List Rl, szR (a ++ b) = szR a + szR b
  | [], b => by simp [szR]
  | x :: a, b => by show x.1.size + szR (a ++ b) = x.1.size + szR a + szR b; rw [szR_append a b]; omega
theorem szR_take {l : List Rl} {k : Nat} (hk : k < l.length) : szR (l.take (k + 1)) = szR (l.take k) + l[k].1.size := by
  rw [List.take_succ_eq_append_getElem hk, szR_append]; rfl
theorem szR_le {l : List Rl} (k : Nat) : szR (l.take k) ≤ szR l := by
  conv => rhs; rw [← List.take_append_drop k l, szR_append]
  omega
theorem szR_each {l : List Rl} {x : Rl} (h : x ∈ l) : x.1.size ≤ szR l := by
  induction l with
  | nil => simp at h
  | cons y t ih =>
    show x.1.size ≤ y.1.size + szR t
    rcases List.mem_cons.1 h with rfl | h
    · omega
    · have := ih h; omega
/-- rules that came in -/
def RdR (W : World) (A : Option Addr) (c : Nat) (l : List Rl) : Prop :=
  l.length ≤ c ∧ c ≤ 9223372036854775807 ∧ Rd W W.heap.size 2 A l.length (rC l) ∧ ∀ x ∈ l, x.1.size ≤ 9223372036854775807 ∧ (Lit.int .i64 x.2).wf = true
end Go.Proofs.YtmjmjloiblbhcaaDoor
