/- Putting a rule into a row of rules (slices.Insert): what it gives; the contract says for which arguments. -/
import Derived.Test.YtmjmjloiblbhcaaDoorC17
import Derived.Test.YtmjmjloiblbhcaaDoorMem3
import Derived.Test.YtmjmjloiblbhcaaDoorMemD
import Derived.Shelf.Spec.SlicesInsert
import Derived.Lib.AppendZerosOnto
namespace Go.Proofs.YtmjmjloiblbhcaaDoor
open Go.RowKit
set_option maxRecDepth 100000
set_option maxHeartbeats 1000000
/-- copy of elements of several cells into a row -/
theorem run_copy_rowK {P : Program} (w : World) (dT sT ty elem k : Nat) (g o dLen dCap : Nat) (a : Addr) (sLen sCap : Nat) (cur : Array Value) (t : TypeId) (cs : List Value)
    (hu : P.underlying dT = some (.slice elem)) (hs : (P.info? elem).map (·.size) = some k)
    (m : Nat) (hm : Nat.min sLen dLen = m) (hg : w.heap[g]? = some (.cells cur t (0, 0))) (hn : cs.length = m * k)
    (hsrc : ∀ j v, cs[j]? = some v → w.cell? (a.add j) = some v) (hfit : o + cs.length ≤ cur.size) (h1 : ∀ v ∈ cs, v.oneCell' = true) :
    (Builtin.copy_ #[dT, sT] ty #[.slice (some ⟨g, o, none⟩) dLen dCap, .slice (some a) sLen sCap]).run P w =
      
      .ok (goInt m) (w.setRow g (cur.toList.take o ++ cs ++ cur.toList.drop (o + cs.length)).toArray) := by
  subst hm
  have hl := run_loadCells_list (P := P) w a cs hsrc
  have hst := run_storeCells_at P g o t cs 0 cur w hg (by simpa using hfit) h1
  cases hq : P.info? elem with
  | none => simp [hq] at hs
  | some i =>
    have hi : i.size = k := by simpa [hq] using hs
    simp [Builtin.copy_, run_underlying hu, Builtin.lenOf, Builtin.firstCells, sizeOf, typeInfo, hq, hi, ← hn, hl, hst]
theorem splice {α : Type} (X Y Z Y' : List α) (h : Y'.length = Y.length) : (X ++ Y ++ Z).take X.length ++ Y' ++ (X ++ Y ++ Z).drop (X.length + Y'.length) = X ++ Y' ++ Z := by
  rw [List.append_assoc X Y Z, List.take_left, h, ← List.drop_drop, List.drop_left, List.drop_left]
theorem cut3 {α : Type} (L : List α) (a b : Nat) (h : a + b ≤ L.length) : ∃ X Y Z, L = X ++ Y ++ Z ∧ X.length = a ∧ Y.length = b ∧ X = L.take a :=
  ⟨L.take a, (L.drop a).take b, (L.drop a).drop b, by rw [List.append_assoc, List.take_append_drop, List.take_append_drop], by simp; omega, by simp; omega, rfl⟩
/-- the row behind the two copies that shift -/
theorem shift_rows {α : Type} (cur P S v : List α) (hcur : cur.take (P.length + S.length) = P ++ S) (hl : P.length + S.length + v.length ≤ cur.length) :
    let r1 := cur.take (P.length + v.length) ++ S ++ cur.drop (P.length + v.length + S.length)
    ∃ Z, r1.take P.length ++ v ++ r1.drop (P.length + v.length) = P ++ v ++ S ++ Z ∧ (P ++ v ++ S ++ Z).length = cur.length ∧ r1.length = cur.length := by
  intro r1
  obtain ⟨X, Y, Z, hL, hX, hY, hXt⟩ := cut3 cur (P.length + v.length) S.length (by omega)
  have hr1 : r1 = X ++ S ++ Z := by
    have := splice X Y Z S hY.symm
    rw [← hL, hX] at this
    exact this
  have hXP : ∃ V, X = P ++ V ∧ V.length = v.length := by
    refine ⟨X.drop P.length, ?_, by simp; omega⟩
    have : X.take P.length = P := by
      rw [hXt, List.take_take, Nat.min_eq_left (by omega)]
      have h2 := congrArg (List.take P.length) hcur
      rw [List.take_take, Nat.min_eq_left (by omega), List.take_left] at h2
      exact h2
    conv => lhs; rw [← List.take_append_drop P.length X, this]
  obtain ⟨V, hV, hVl⟩ := hXP
  have hlen := congrArg List.length hL
  simp only [List.length_append] at hlen
  refine ⟨Z, ?_, by simp only [List.length_append]; omega, by rw [hr1]; simp only [List.length_append]; omega⟩
  have h3 := splice P V (S ++ Z) v hVl.symm
  rw [hr1, hV]
  have e : P ++ V ++ S ++ Z = P ++ V ++ (S ++ Z) := by simp
  rw [e, h3]; simp
/-- the row behind the two copies into new memory -/
theorem grow_rows {α : Type} (ROW P S v : List α) (hP : ROW.take P.length = P) (hl : P.length + S.length + v.length ≤ ROW.length) :
    let r1 := ROW.take P.length ++ v ++ ROW.drop (P.length + v.length)
    ∃ Z, r1.take (P.length + v.length) ++ S ++ r1.drop (P.length + v.length + S.length) = P ++ v ++ S ++ Z ∧ (P ++ v ++ S ++ Z).length = ROW.length ∧ r1.length = ROW.length := by
  intro r1
  obtain ⟨X, Y, Z, hL, hX, hY, hXt⟩ := cut3 ROW P.length v.length (by omega)
  rw [hP] at hXt
  subst hXt
  have hr1 : r1 = X ++ v ++ Z := by
    have := splice X Y Z v hY.symm
    rw [← hL] at this
    exact this
  have hlen := congrArg List.length hL
  simp only [List.length_append] at hlen
  obtain ⟨S0, Y2, Z2, hL2, hS0, hY2, _⟩ := cut3 Z 0 S.length (by omega)
  have hS0' : S0 = [] := List.eq_nil_of_length_eq_zero hS0
  subst hS0'
  rw [List.nil_append] at hL2
  have hlen2 := congrArg List.length hL2
  simp only [List.length_append] at hlen2
  refine ⟨Z2, ?_, by simp only [List.length_append]; omega, by rw [hr1]; simp only [List.length_append]; omega⟩
  have h3 := splice (X ++ v) Y2 Z2 S hY2.symm
  rw [hr1, hL2]
  have e : X ++ v ++ (Y2 ++ Z2) = X ++ v ++ Y2 ++ Z2 := by simp
  have e2 : (X ++ v).length = X.length + v.length := by simp
  rw [e, ← e2, h3]
theorem rC_drop (rs : List Rl) (k : Nat) : rC rs = rC (rs.take k) ++ rC (rs.drop k) := by rw [← rC_append, List.take_append_drop]
theorem rC_one (l : List Rl) : ∀ u ∈ rC l, u.oneCell' = true := by
  induction l with
  | nil => intro u hu; cases hu
  | cons r t ih =>
    intro u hu
    rcases List.mem_cons.1 hu with rfl | hu
    · rfl
    · rcases List.mem_cons.1 hu with rfl | hu
      · rfl
      · exact ih u hu
/-- rules with one put in, in a row of the call's own -/
def RetIns (base : Nat) (A0 : Option Addr) (l : List Rl) (w : World) (e : Ending) (w' : World) : Prop :=
  ∃ A c, e = .returned (.slice A l.length c) ∧ l.length ≤ c ∧ w'.ownsRow base 53 2 (.slice A l.length c) l.length (rC l) ∧ Below base w w' ∧ ∀ k, k < w.heap.size → (∀ x, A0 = some x → x.block ≠ k) → w'.heap[k]? = w.heap[k]?
theorem ins_end (base : Nat) (A : Option Addr) (c : Nat) (l : List Rl) (r : Rl) (vb : Nat) (w : World) (ho : w.ownsRow base 53 2 (.slice A l.length c) l.length (rC l)) (hb : Blk w vb 53 #[.string r.1, .int .i64 r.2]) (hbase : base ≤ w.heap.size) (hl : l.length ≤ 100000) :
    Calls Tryd.prog 44 #[.slice A l.length c, .int .i64 (l.length : Int), .slice (some ⟨vb, 0, none⟩) 1 1] w (RetIns base A (l ++ [r]) w) := by
  have HO := hide ho
  have HR : Hid (Rd w (vb + 1) 2 (some ⟨vb, 0, none⟩) 1 [.string r.1, .int .i64 r.2]) := ⟨rfl, by omega, fun _ => ⟨vb, 0, rfl, by omega, fun j u hu => by
    rw [hb.cell, Nat.zero_add, ← Array.getElem?_toList]; exact hu⟩⟩
  have hlc : l.length ≤ c := by
    obtain ⟨_, _, h, h2⟩ := own_slice ho
    cases h; exact h2
  clear ho hb
  go_enter Tryd.func44, Tryd.ntmps44
  cases A with
  | none =>
    go_wp2_with (at_builtin; refine wpList_app _ rfl (.tmp 23) (.tmp 24) 24 rfl base 53 _ 2 24 Tryd.underlying24 info_r rfl (by omega) _ l.length c (rC l) rfl HO.out (some ⟨vb, 0, none⟩) 1 1 (vb + 1) [.string r.1, .int .i64 r.2] rfl HR.out (by simp [Value.oneCell']) (by omega) (by omega) hbase ?_; intro A1 c1 w1 hc1 hown1 hg1 _)
    all_goals
      go_ret
      refine ⟨A1, c1, by simp, by simpa using hc1, ?_, grown_below HO.out hg1 hbase, fun k hk hne => far_block hg1 k hk hne⟩
      rw [rC_append]
      simp only [List.length_append, List.length_cons, List.length_nil, Nat.zero_add]
      exact hown1
  | some a =>
    obtain ⟨g, off, sp⟩ := a
    go_wp2_with (at_builtin; refine wpList_app _ rfl (.tmp 23) (.tmp 24) 24 rfl base 53 _ 2 24 Tryd.underlying24 info_r rfl (by omega) _ l.length c (rC l) rfl HO.out (some ⟨vb, 0, none⟩) 1 1 (vb + 1) [.string r.1, .int .i64 r.2] rfl HR.out (by simp [Value.oneCell']) (by omega) (by omega) hbase ?_; intro A1 c1 w1 hc1 hown1 hg1 _)
    all_goals
      go_ret
      refine ⟨A1, c1, by simp, by simpa using hc1, ?_, grown_below HO.out hg1 hbase, fun k hk hne => far_block hg1 k hk hne⟩
      rw [rC_append]
      simp only [List.length_append, List.length_cons, List.length_nil, Nat.zero_add]
      exact hown1
theorem rC_ins (l : List Rl) (i : Nat) (r : Rl) : rC (l.take i ++ r :: l.drop i) = rC (l.take i) ++ [.string r.1, .int .i64 r.2] ++ rC (l.drop i) := by
  rw [rC_append, List.append_assoc]; rfl
theorem ins_length (l : List Rl) (i : Nat) (r : Rl) : (l.take i ++ r :: l.drop i).length = l.length + 1 := by simp; omega
/-- a row that holds the rules with one put in -/
theorem ins_own {base N cap : Nat} {l : List Rl} {i : Nat} {r : Rl} {w : World} {Z : List Value} {n : Nat} (hb : base ≤ N) (hg : w.heap[N]? = some (.cells (rC (l.take i) ++ [Value.string r.1, Value.int .i64 r.2] ++ rC (l.drop i) ++ Z).toArray 53 (0, 0))) (hc : l.length + 1 ≤ cap) (hm : cap ≤ maxLen) (hn : n = cap * 2) (hz : (rC (l.take i) ++ [Value.string r.1, Value.int .i64 r.2] ++ rC (l.drop i) ++ Z).length = n) :
    w.ownsRow base 53 2 (.slice (some ⟨N, 0, none⟩) (l.take i ++ r :: l.drop i).length cap) (l.take i ++ r :: l.drop i).length (rC (l.take i ++ r :: l.drop i)) := by
  have hrc := rC_ins l i r
  have hl2 := ins_length l i r
  have hlen : (rC (l.take i ++ r :: l.drop i)).length = (l.length + 1) * 2 := by rw [rC_length, hl2]
  refine ⟨rC_length _, .inr ⟨N, cap, _, rfl, hb, hg, by rw [hl2]; exact hc, hm, ?_, ?_⟩⟩
  · rw [List.size_toArray, hz, hn]
  · rw [← hrc, List.toList_toArray, hl2, ← hlen, List.take_left]
end Go.Proofs.YtmjmjloiblbhcaaDoor
