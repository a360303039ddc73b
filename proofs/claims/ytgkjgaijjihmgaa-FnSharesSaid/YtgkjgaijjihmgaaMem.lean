/- Small laws on numbers, and predicates for slices in memory: what a slice reads as, which slices may be written; there is no program here and no condition. -/
import Derived.WalkKit
import Derived.WalkSpells
import Derived.WalkLawsBesides
import Derived.ProofKit
import Derived.OpenShut
import Derived.Deep.Draws
import Derived.Maps.AppendAt
import Derived.Deep.AppendLies
namespace Go.Proofs.Ytgkjgaijjihmgaa
open Go.RowKit Go.ChangeShapes Go.WideShapes
/-! numbers -/
theorem ofInt_i64 (a : Nat) (ha : a < 9223372036854775808) : (BitVec.ofInt 64 (a : Int)).toNat = a := by
  rw [BitVec.ofInt_natCast, BitVec.toNat_ofNat]; exact Nat.mod_eq_of_lt (by omega)
theorem i64_and_nat (a b : Nat) (ha : a < 9223372036854775808) (hb : b < 9223372036854775808) : bits .and .i64 (a : Int) (b : Int) = ((a &&& b : Nat) : Int) := by
  have hx : a &&& b < 2 ^ 63 := Nat.and_lt_two_pow _ (by omega)
  show IntKind.i64.wrap ((BitVec.ofInt 64 (a : Int) &&& BitVec.ofInt 64 (b : Int)).toNat : Int) = _
  rw [BitVec.toNat_and, ofInt_i64 a ha, ofInt_i64 b hb, IntKind.wrap_i64]
  omega
theorem i64_or_nat (a b : Nat) (ha : a < 9223372036854775808) (hb : b < 9223372036854775808) : bits .or .i64 (a : Int) (b : Int) = ((a ||| b : Nat) : Int) := by
  have hx : a ||| b < 2 ^ 63 := Nat.or_lt_two_pow (by omega) (by omega)
  show IntKind.i64.wrap ((BitVec.ofInt 64 (a : Int) ||| BitVec.ofInt 64 (b : Int)).toNat : Int) = _
  rw [BitVec.toNat_or, ofInt_i64 a ha, ofInt_i64 b hb, IntKind.wrap_i64]
  omega
theorem i64_xor_nat (a b : Nat) (ha : a < 9223372036854775808) (hb : b < 9223372036854775808) : bits .xor .i64 (a : Int) (b : Int) = ((a ^^^ b : Nat) : Int) := by
  have hx : a ^^^ b < 2 ^ 63 := Nat.xor_lt_two_pow (by omega) (by omega)
  show IntKind.i64.wrap ((BitVec.ofInt 64 (a : Int) ^^^ BitVec.ofInt 64 (b : Int)).toNat : Int) = _
  rw [BitVec.toNat_xor, ofInt_i64 a ha, ofInt_i64 b hb, IntKind.wrap_i64]
  omega
theorem hide {p : Prop} (h : p) : Hid p := h
theorem ret_int {k : IntKind} {a b : Int} (h : a = b) : Ending.returned (.int k a) = .returned (.int k b) := by rw [h]
theorem int_eq {k : IntKind} {a b : Int} (h : a = b) : Value.int k a = Value.int k b := by rw [h]
/-- the call only computes -/
def Pure (v : Value) (w : World) (e : Ending) (w' : World) : Prop := e = .returned v ∧ w = w'
def inB (a b c : Int) : Bool := decide (b ≤ a) && decide (a ≤ c)
theorem inB_true {a b c : Int} : inB a b c = true ↔ b ≤ a ∧ a ≤ c := by simp [inB]
theorem inB_false {a b c : Int} : inB a b c = false ↔ ¬ (b ≤ a ∧ a ≤ c) := by
  rw [← inB_true]; cases inB a b c <;> simp

/-! slices in memory -/
/-- a slice that reads as the cells xs -/
def Rd (w : World) (hi size : Nat) (A : Option Addr) (n : Nat) (xs : List Value) : Prop :=
  xs.length = n * size ∧ n ≤ 9223372036854775807 ∧
    (0 < n → ∃ b off, A = some ⟨b, off, none⟩ ∧ b < hi ∧ ∀ j u, xs[j]? = some u → w.cell? ⟨b, off + j, none⟩ = some u)
/-- a slice that may be written: its block lies from lo to hi -/
def Ow (w : World) (lo hi e size : Nat) (A : Option Addr) (n : Nat) (xs : List Value) : Prop :=
  xs.length = n * size ∧ n ≤ 9223372036854775807 ∧
    (0 < n → ∃ b off cur, A = some ⟨b, off, none⟩ ∧ lo ≤ b ∧ b < hi ∧ w.heap[b]? = some (.cells cur e (0, 0)) ∧ ∀ j u, xs[j]? = some u → cur[off + j]? = some u)
def bC (l : List UInt8) : List Value := l.map fun x => .int .u8 (x.toNat : Int)
def iC (l : List Int) : List Value := l.map fun x => .int .i64 x
def sC (l : List ByteArray) : List Value := l.map fun x => .string x
theorem bC_length (l : List UInt8) : (bC l).length = l.length := by simp [bC]
theorem iC_length (l : List Int) : (iC l).length = l.length := by simp [iC]
theorem sC_length (l : List ByteArray) : (sC l).length = l.length := by simp [sC]
theorem bC_get {l : List UInt8} {k : Nat} (h : k < l.length) : (bC l)[k]? = some (.int .u8 (l[k].toNat : Int)) := by simp [bC, h]
theorem iC_get {l : List Int} {k : Nat} (h : k < l.length) : (iC l)[k]? = some (.int .i64 l[k]) := by simp [iC, h]
theorem sC_get {l : List ByteArray} {k : Nat} (h : k < l.length) : (sC l)[k]? = some (.string l[k]) := by simp [sC, h]
theorem bC_append (l m : List UInt8) : bC (l ++ m) = bC l ++ bC m := by simp [bC]
theorem iC_append (l m : List Int) : iC (l ++ m) = iC l ++ iC m := by simp [iC]
theorem sC_append (l m : List ByteArray) : sC (l ++ m) = sC l ++ sC m := by simp [sC]
theorem bC_take (l : List UInt8) (k : Nat) : bC (l.take k) = (bC l).take k := by simp [bC]
theorem iC_take (l : List Int) (k : Nat) : iC (l.take k) = (iC l).take k := by simp [iC]
theorem bC_succ {l : List UInt8} {k : Nat} (h : k < l.length) : bC (l.take k) ++ [.int .u8 (l[k].toNat : Int)] = bC (l.take (k + 1)) := by
  rw [List.take_succ_eq_append_getElem h, bC_append]; rfl
theorem iC_succ {l : List Int} {k : Nat} (h : k < l.length) : iC (l.take k) ++ [.int .i64 l[k]] = iC (l.take (k + 1)) := by
  rw [List.take_succ_eq_append_getElem h, iC_append]; rfl
theorem sC_succ {l : List ByteArray} {k : Nat} (h : k < l.length) : sC (l.take k) ++ [.string l[k]] = sC (l.take (k + 1)) := by
  rw [List.take_succ_eq_append_getElem h, sC_append]; rfl
theorem bC_set (l : List UInt8) (k : Nat) (x : UInt8) : bC (l.set k x) = (bC l).set k (.int .u8 (x.toNat : Int)) := by simp [bC, List.map_set]
theorem iC_set (l : List Int) (k : Nat) (x : Int) : iC (l.set k x) = (iC l).set k (.int .i64 x) := by simp [iC, List.map_set]
theorem bC_one (l : List UInt8) : ∀ u ∈ bC l, u.oneCell' = true := by
  intro u hu; obtain ⟨x, _, rfl⟩ := List.mem_map.1 hu; rfl
theorem iC_one (l : List Int) : ∀ u ∈ iC l, u.oneCell' = true := by
  intro u hu; obtain ⟨x, _, rfl⟩ := List.mem_map.1 hu; rfl
theorem sC_one (l : List ByteArray) : ∀ u ∈ sC l, u.oneCell' = true := by
  intro u hu; obtain ⟨x, _, rfl⟩ := List.mem_map.1 hu; rfl

section
variable {w w' : World} {hi hi' lo lo' e size n : Nat} {A : Option Addr} {xs : List Value}
theorem Rd.keep (h : Rd w hi size A n xs) (hk : ∀ b, b < hi → w'.heap[b]? = w.heap[b]?) : Rd w' hi size A n xs :=
  ⟨h.1, h.2.1, fun hn => by
    obtain ⟨b, off, e, hb, hc⟩ := h.2.2 hn
    exact ⟨b, off, e, hb, fun j u hu => (World.cell?_of_block (hk b hb)).trans (hc j u hu)⟩⟩
theorem Rd.mono (h : Rd w hi size A n xs) (hh : hi ≤ hi') : Rd w hi' size A n xs :=
  ⟨h.1, h.2.1, fun hn => by
    obtain ⟨b, off, e, hb, hc⟩ := h.2.2 hn
    exact ⟨b, off, e, by omega, hc⟩⟩
theorem Rd.below {B : Nat} (h : Rd w hi size A n xs) (hb : Below B w w') (hB : hi ≤ B) : Rd w' hi size A n xs := h.keep fun b hlt => hb.block b (by omega)
theorem Rd.up (h : Rd w w.heap.size size A n xs) (hb : Below w.heap.size w w') : Rd w' w'.heap.size size A n xs := (h.below hb (Nat.le_refl _)).mono hb.size
theorem then_ {B : Nat} {w0 w1 w2 : World} (h : Below B w0 w1) (k : Below w1.heap.size w1 w2) (hB : B ≤ w1.heap.size) : Below B w0 w2 := h.trans (k.mono hB)
theorem Rd.bd (h : Rd w hi size A n xs) : n ≤ 9223372036854775807 := h.2.1
theorem Rd.nil (w : World) (hi size : Nat) (A : Option Addr) : Rd w hi size A 0 [] := ⟨by simp, by omega, fun h => absurd h (by omega)⟩
theorem Ow.bd (h : Ow w lo hi e size A n xs) : n ≤ 9223372036854775807 := h.2.1
theorem Ow.nil (w : World) (lo hi e size : Nat) (A : Option Addr) : Ow w lo hi e size A 0 [] := ⟨by simp, by omega, fun h => absurd h (by omega)⟩
theorem Ow.rd (h : Ow w lo hi e size A n xs) : Rd w hi size A n xs :=
  ⟨h.1, h.2.1, fun hn => by
    obtain ⟨b, off, cur, e, _, hb, hh, hc⟩ := h.2.2 hn
    exact ⟨b, off, e, hb, fun j u hu => by rw [cell_of_row w b (off + j) cur _ (0, 0) hh]; exact hc j u hu⟩⟩
theorem Ow.keep (h : Ow w lo hi e size A n xs) (hk : ∀ b, lo ≤ b → b < hi → w'.heap[b]? = w.heap[b]?) : Ow w' lo hi e size A n xs :=
  ⟨h.1, h.2.1, fun hn => by
    obtain ⟨b, off, cur, e, hl, hb, hh, hc⟩ := h.2.2 hn
    exact ⟨b, off, cur, e, hl, hb, (hk b hl hb).trans hh, hc⟩⟩
theorem Ow.mono (h : Ow w lo hi e size A n xs) (hl : lo' ≤ lo) (hh : hi ≤ hi') : Ow w lo' hi' e size A n xs :=
  ⟨h.1, h.2.1, fun hn => by
    obtain ⟨b, off, cur, e, hl, hb, hh, hc⟩ := h.2.2 hn
    exact ⟨b, off, cur, e, by omega, by omega, hh, hc⟩⟩
theorem Ow.below {B : Nat} (h : Ow w lo hi e size A n xs) (hb : Below B w w') (hB : hi ≤ B) : Ow w' lo hi e size A n xs := h.keep fun b _ hlt => hb.block b (by omega)
theorem Ow.of_own {base c : Nat} (h : w.ownsRow base e size (.slice A n c) n xs) : Ow w base w.heap.size e size A n xs := by
  refine ⟨h.1, ?_, fun hn => ?_⟩
  · rcases h.2 with ⟨_, h0⟩ | ⟨g, cap, cur, _, _, _, hnc, hcm, _⟩
    · omega
    · simp only [maxLen] at hcm; omega
  rcases h.2 with ⟨hv, h0⟩ | ⟨g, cap, cur, hv, hb, hg, hnc, hcm, hcs, htake⟩
  · omega
  · injection hv with hA
    refine ⟨g, 0, cur, hA, hb, (Array.getElem?_eq_some_iff.1 hg).1, hg, fun j u hu => ?_⟩
    rw [← htake, List.getElem?_take] at hu
    split at hu
    · rw [Nat.zero_add, ← Array.getElem?_toList]; exact hu
    · cases hu
theorem own_rd {base c : Nat} (h : w.ownsRow base e size (.slice A n c) n xs) : Rd w w.heap.size size A n xs := (Ow.of_own h).rd
theorem own_slice {base : Nat} {v : Value} (h : w.ownsRow base e size v n xs) : ∃ A c, v = .slice A n c ∧ n ≤ c := by
  rcases h.2 with ⟨rfl, rfl⟩ | ⟨g, cap, cur, rfl, _, _, hnc, _⟩
  · exact ⟨_, _, rfl, Nat.le_refl _⟩
  · exact ⟨_, _, rfl, hnc⟩
/-- one cell of a byte slice -/
theorem Rd.byte {l : List UInt8} (h : Rd w hi 1 A n (bC l)) {k : Nat} (hk : k < n) : ∃ b off, A = some ⟨b, off, none⟩ ∧ b < hi ∧ ∃ hl : k < l.length, w.cell? ⟨b, off + k, none⟩ = some (.int .u8 (l[k].toNat : Int)) := by
  have hl : k < l.length := by have := h.1; rw [bC_length] at this; omega
  obtain ⟨b, off, e, hb, hc⟩ := h.2.2 (by omega)
  exact ⟨b, off, e, hb, hl, hc k _ (bC_get hl)⟩
theorem Rd.bn {l : List UInt8} (h : Rd w hi 1 A n (bC l)) : l.length = n := by have := h.1; rw [bC_length] at this; omega
theorem Rd.int_ {l : List Int} (h : Rd w hi 1 A n (iC l)) {k : Nat} (hk : k < n) : ∃ b off, A = some ⟨b, off, none⟩ ∧ b < hi ∧ ∃ hl : k < l.length, w.cell? ⟨b, off + k, none⟩ = some (.int .i64 l[k]) := by
  have hl : k < l.length := by have := h.1; rw [iC_length] at this; omega
  obtain ⟨b, off, e, hb, hc⟩ := h.2.2 (by omega)
  exact ⟨b, off, e, hb, hl, hc k _ (iC_get hl)⟩
theorem Rd.in_ {l : List Int} (h : Rd w hi 1 A n (iC l)) : l.length = n := by have := h.1; rw [iC_length] at this; omega
theorem Rd.str {l : List ByteArray} (h : Rd w hi 1 A n (sC l)) {k : Nat} (hk : k < n) : ∃ b off, A = some ⟨b, off, none⟩ ∧ b < hi ∧ ∃ hl : k < l.length, w.cell? ⟨b, off + k, none⟩ = some (.string l[k]) := by
  have hl : k < l.length := by have := h.1; rw [sC_length] at this; omega
  obtain ⟨b, off, e, hb, hc⟩ := h.2.2 (by omega)
  exact ⟨b, off, e, hb, hl, hc k _ (sC_get hl)⟩
theorem Rd.sn {l : List ByteArray} (h : Rd w hi 1 A n (sC l)) : l.length = n := by have := h.1; rw [sC_length] at this; omega
/-- one cell of a slice that may be written -/
theorem Ow.at_ (h : Ow w lo hi e size A n xs) {j : Nat} (hj : j < xs.length) : ∃ b off, A = some ⟨b, off, none⟩ ∧ lo ≤ b ∧ b < hi ∧ w.cell? ⟨b, off + j, none⟩ = some xs[j] ∧ w.frozen? ⟨b, off + j, none⟩ = false := by
  have h0 : 0 < n := by
    rcases Nat.eq_zero_or_pos n with h0 | h0
    · have := h.1; rw [h0] at this; omega
    · exact h0
  obtain ⟨b, off, cur, e, hl, hb, hh, hc⟩ := h.2.2 h0
  exact ⟨b, off, e, hl, hb, by rw [cell_of_row w b (off + j) cur _ (0, 0) hh]; exact hc j _ (List.getElem?_eq_getElem hj), frozen_of_row w b (off + j) cur _ hh⟩
theorem Ow.store {b off : Nat} (h : Ow w lo hi e size (some ⟨b, off, none⟩) n xs) {j : Nat} (hj : j < xs.length) (u : Value) : Ow (w.setCell ⟨b, off + j, none⟩ u) lo hi e size (some ⟨b, off, none⟩) n (xs.set j u) := by
  refine ⟨by rw [List.length_set]; exact h.1, h.2.1, fun hn => ?_⟩
  obtain ⟨b', off', cur, e, hl, hb, hh, hc⟩ := h.2.2 hn
  injection e with e
  injection e with e1 e2
  subst e1; subst e2
  refine ⟨b, off, _, rfl, hl, hb, heap_setCell_same w b (off + j) cur _ u hh, fun i v hi => ?_⟩
  have hjc : off + j < cur.size := (Array.getElem?_eq_some_iff.1 (hc j _ (List.getElem?_eq_getElem hj))).1
  rw [List.getElem?_set] at hi
  rw [Array.getElem?_setIfInBounds]
  by_cases hij : j = i
  · subst hij
    rw [if_pos rfl, if_pos hjc]
    rw [if_pos rfl, if_pos hj] at hi
    exact hi
  · rw [if_neg (by omega)]
    rw [if_neg hij] at hi
    exact hc i v hi
theorem Ow.far (h : Ow w lo hi e size A n xs) {p : Addr} (hp : p.block < lo ∨ hi ≤ p.block) (u : Value) : Ow (w.setCell p u) lo hi e size A n xs :=
  h.keep fun b hl hb => Below.heap_setCell w p u b (by omega)
theorem Rd.far (h : Rd w hi size A n xs) {p : Addr} (hp : hi ≤ p.block) (u : Value) : Rd (w.setCell p u) hi size A n xs :=
  h.keep fun b hb => Below.heap_setCell w p u b (by omega)
theorem Ow.made (w : World) (cs : Array Value) (e n size : Nat) (hs : cs.size = n * size) (hn : n ≤ 9223372036854775807) : Ow (w.alloc (.cells cs e)) w.heap.size (w.heap.size + 1) e size (some ⟨w.heap.size, 0, none⟩) n cs.toList := by
  refine ⟨by simpa using hs, hn, fun _ => ⟨w.heap.size, 0, cs, rfl, Nat.le_refl _, Nat.lt_succ_self _, heap_alloc_new w _, fun j u hu => ?_⟩⟩
  rw [Nat.zero_add, ← Array.getElem?_toList]; exact hu
end
/-- a list that is filled from the left -/
def fill {α : Type} (l : List α) (k : Nat) (z : α) : List α := l.take k ++ List.replicate (l.length - k) z
theorem fill_zero {α : Type} (l : List α) (z : α) : fill l 0 z = List.replicate l.length z := by simp [fill]
theorem fill_all {α : Type} (l : List α) (z : α) : fill l l.length z = l := by simp [fill]
theorem fill_length {α : Type} (l : List α) (k : Nat) (z : α) (h : k ≤ l.length) : (fill l k z).length = l.length := by simp [fill]; omega
theorem fill_set {α : Type} (l : List α) (k : Nat) (z : α) (h : k < l.length) : (fill l k z).set k l[k] = fill l (k + 1) z := by
  have h1 : (l.take k).length = k := by simp; omega
  unfold fill
  rw [List.set_append_right _ _ (by omega), h1, Nat.sub_self]
  obtain ⟨m, hm⟩ : ∃ m, l.length - k = m + 1 := ⟨l.length - k - 1, by omega⟩
  rw [hm, List.replicate_succ, List.set_cons_zero, List.take_succ_eq_append_getElem h, List.append_assoc, show l.length - (k + 1) = m from by omega]
  rfl
theorem fill_get {α : Type} (l : List α) (k : Nat) (z : α) (h : k < l.length) : (fill l k z)[k]? = some z := by
  have h1 : (l.take k).length = k := by simp; omega
  unfold fill
  rw [List.getElem?_append_right (by omega), h1, Nat.sub_self, List.getElem?_replicate, if_pos (by omega)]
/-- a list that is written over from the left -/
def over {α : Type} (m l : List α) (j : Nat) : List α := m.take j ++ l.drop j
theorem over_zero {α : Type} (m l : List α) : over m l 0 = l := by simp [over]
theorem over_all {α : Type} {m l : List α} (h : m.length = l.length) : over m l m.length = m := by
  unfold over
  rw [List.take_length, h, List.drop_length, List.append_nil]
theorem over_length {α : Type} {m l : List α} {j : Nat} (h : m.length = l.length) : (over m l j).length = l.length := by simp [over]; omega
theorem over_set {α : Type} {m l : List α} {j : Nat} (h : m.length = l.length) (hj : j < m.length) : (over m l j).set j m[j] = over m l (j + 1) := by
  have h1 : (m.take j).length = j := by simp; omega
  unfold over
  rw [List.set_append_right _ _ (by omega), h1, Nat.sub_self, List.drop_eq_getElem_cons (by omega), List.set_cons_zero, List.take_succ_eq_append_getElem hj, List.append_assoc]
  rfl
theorem over_get {α : Type} {m l : List α} {j : Nat} (h : m.length = l.length) (hj : j < l.length) : (over m l j)[j]? = some l[j] := by
  have h1 : (m.take j).length = j := by simp; omega
  unfold over
  rw [List.getElem?_append_right (by omega), h1, Nat.sub_self, List.getElem?_drop, Nat.add_zero, List.getElem?_eq_getElem hj]
theorem only_setCell {a w : World} {g : Nat} (h : a.grownBy w (some g)) {p : Addr} (hp : p.block = g ∨ a.heap.size ≤ p.block) (u : Value) : a.grownBy (w.setCell p u) (some g) :=
  ⟨h.os, h.tape, h.output, by simpa [World.setCell] using h.size, fun i hi hne => (Below.heap_setCell w p u i (by
    rintro rfl
    rcases hp with hp | hp
    · exact hne (by rw [hp])
    · omega)).trans (h.block i hi hne)⟩
theorem made_row_cells (w : World) (e n : Nat) (z : Value) (hn : n ≤ 9223372036854775807) : (w.alloc (.cells (madeCells #[z] n) e)).ownsRow w.heap.size e 1 (.slice (some ⟨w.heap.size, 0, none⟩) n n) n (List.replicate n z) := by
  have h := World.ownsRow_lit (e := e) (size := 1) (base := w.heap.size) w (madeCells #[z] n) n (Nat.le_refl _) (by simp only [maxLen]; omega) (by rw [size_madeCells]; omega)
  rw [toList_madeCells_one] at h
  exact h
theorem made_row (w : World) (e n : Nat) (l : List UInt8) (z : Value) (hl : l.length = n) (hz : z = .int .u8 0) (hn : n ≤ 9223372036854775807) :
    (w.alloc (.cells (madeCells #[z] n) e)).ownsRow w.heap.size e 1 (.slice (some ⟨w.heap.size, 0, none⟩) n n) n (bC (fill l 0 0)) := by
  have h := made_row_cells w e n z hn
  rw [fill_zero, hl, bC, List.map_replicate]
  subst hz
  exact h
theorem made_rowI (w : World) (e n : Nat) (l : List Int) (z : Value) (hl : l.length = n) (hz : z = .int .i64 0) (hn : n ≤ 9223372036854775807) :
    (w.alloc (.cells (madeCells #[z] n) e)).ownsRow w.heap.size e 1 (.slice (some ⟨w.heap.size, 0, none⟩) n n) n (iC (fill l 0 0)) := by
  have h := made_row_cells w e n z hn
  rw [fill_zero, hl, iC, List.map_replicate]
  subst hz
  exact h
theorem below_drewN {B : Nat} {a w : World} (h : Below B a w) (n : Nat) : Below B a (w.drewN n) := ⟨h.os, h.tape, h.output, h.size, h.block⟩
/-- 'append(out, x)', out a row of the call's own, x in a new block -/
theorem wpList_push {P : Program} {ops : Array Oper} {rest : List Oper} {o : Oper} {a : Act} {Q : Exit → Act → World → Prop} (wr : World) (hgd : o.guard = none) (s x : Operand) (t : TypeId)
    (ho : o.op = .call { callee := .builtin .append, args := #[s, x], argTypes := #[t, t] })
    (base e : Nat) (z : Value) (size bytes : Nat) (ht : P.underlying t = some (.slice e)) (hinfo : (P.info? e).map (fun i => (i.zero, i.size, i.bytes)) = some (some z, size, bytes)) (hzs : z.cells.size = size) (hsz : 0 < size)
    (A : Option Addr) (n c : Nat) (xs news : List Value) (hs : a.eval s = .slice A n c) (hown : wr.ownsRow base e size (.slice A n c) n xs)
    (hx : a.eval x = .slice (some ⟨wr.heap.size, 0, none⟩) 1 1) (hl : news.length = size) (h1 : ∀ u ∈ news, u.oneCell' = true)
    (h63 : n + 1 ≤ 9223372036854775807) (hbytes : (n + 1) * bytes ≤ 140737488355328) (hbase : base ≤ wr.heap.size)
    (h : ∀ A' c' w', n + 1 ≤ c' → w'.ownsRow base e size (.slice A' (n + 1) c') (n + 1) (xs ++ news) → wr.grownBy w' (Value.slice A n c).ownBlock → (∀ a, A' = some a → (∃ a', A = some a' ∧ a.block = a'.block) ∨ wr.heap.size < a.block) → wpList P ops Q rest (a.put o.dst (.slice A' (n + 1) c')) w') :
    wpList P ops Q (o :: rest) a (wr.alloc (.cells news.toArray e)) := by
  obtain ⟨i, hi, hz, hsize, hby⟩ := info_parts hinfo
  have hnews : ∀ j u, news[j]? = some u → (wr.alloc (.cells news.toArray e)).cell? ((⟨wr.heap.size, 0, none⟩ : Addr).add j) = some u := by
    intro j u hu
    have hadd : (⟨wr.heap.size, 0, none⟩ : Addr).add j = ⟨wr.heap.size, j, none⟩ := by unfold Addr.add; split <;> simp_all
    rw [hadd, cell_of_row _ wr.heap.size j news.toArray e (0, 0) (heap_alloc_new wr _)]
    simpa using hu
  obtain ⟨v', w', hrun, h2, h3, _, h5⟩ := run_append_own_at (P := P) (wr.alloc (.cells news.toArray e)) base t o.type e i z size bytes ht hi hz hsize hby hzs hsz (.slice A n c) n xs (hown.alloc _) ⟨wr.heap.size, 0, none⟩ 1 1 news
    (by rw [hl]; omega) hnews h1 (by simp only [maxLen]; omega) hbytes (by simp; omega)
  refine wpList_plain hgd fun K hK => ?_
  unfold Oper.wp execOp
  simp only [ho, resolve, invoke, builtin, Sem.run_bind, Sem.run_pure, Result.andThen_ok, List.map_toArray, List.map_cons, List.map_nil, hs, hx, hrun]
  obtain ⟨A', c', hv, hnc⟩ := own_slice h2
  subst hv
  refine hK _ _ (h A' c' w' hnc h2 ⟨h3.os, h3.tape, h3.output, by have := h3.size; simp at this; omega, fun k hk hne => (h3.block k (by simp; omega) hne).trans (Below.heap_alloc wr _ k hk)⟩ ?_)
  intro ad had
  rcases h5 with h5 | h5
  · left
    subst had
    cases A with
    | none => simp [Value.ownBlock] at h5
    | some a' => exact ⟨a', rfl, by simpa [Value.ownBlock] using h5⟩
  · right
    subst had
    simp [Value.ownBlock] at h5
    omega
theorem grown_below {base : Nat} {wr w' : World} {A : Option Addr} {n c : Nat} {e size : Nat} {xs : List Value} (hown : wr.ownsRow base e size (.slice A n c) n xs) (hg : wr.grownBy w' (Value.slice A n c).ownBlock) (hbase : base ≤ wr.heap.size) : Below base wr w' :=
  (Below.refl _ _).grown hg hbase fun k hk => (hown.lt k hk).1
/-- what the frame of a law is told of a slice of numbers that came in -/
def IsRow (k : IntKind) (w : World) (a : Option Addr) (len cap : Nat) (zs : List Int) : Prop :=
  (a = none ∧ len = 0 ∧ cap = 0 ∧ zs = []) ∨
  ∃ x, a = some x ∧ len ≤ cap ∧ cap ≤ maxLen ∧ zs.length = cap ∧ (∀ i, i < zs.length → w.cell? (x.add i) = some (.int k (zs.getD i 0))) ∧ ∀ n ∈ zs, (Lit.int k n).wf = true
theorem isRow_of {H : Type} {enc : TypeId × Value → H} {P : Program} {w : World} {base : Nat} {held : Bool} {fuel : Nat} {t e : TypeId} {k : IntKind} {a : Option Addr} {len cap : Nat} {x : DataW H × List MemPlace}
    (ht : P.underlying t = some (.slice e)) (he : P.underlying e = some (.int k)) (hc : P.cellsOf e = 1) (hf : DataW.trod enc P w base (fun _ => true) held fuel t [.slice a len cap] = some x) : ∃ zs, IsRow k w a len cap zs := by
  rcases open_ints ht he hc hf with ⟨hcs, _⟩ | ⟨x, l, c, zs, hcs, _, hl, hm, hz, _, hcell, hwz⟩
  · simp at hcs
    obtain ⟨rfl, rfl, rfl⟩ := hcs
    exact ⟨[], .inl ⟨rfl, rfl, rfl, rfl⟩⟩
  · simp at hcs
    obtain ⟨rfl, rfl, rfl⟩ := hcs
    exact ⟨zs, .inr ⟨_, rfl, hl, hm, by simpa using hz, hcell, hwz⟩⟩
theorem IsRow.rd {k : IntKind} {w : World} {a : Option Addr} {len cap : Nat} {zs : List Int} (h : IsRow k w a len cap zs) :
    ∃ l : List Int, l.length = len ∧ (∀ x ∈ l, (Lit.int k x).wf = true) ∧ Rd w w.heap.size 1 a len (l.map (Value.int k)) := by
  rcases h with ⟨rfl, rfl, rfl, rfl⟩ | ⟨x, rfl, hlc, hcm, hz, hc, hw⟩
  · exact ⟨[], rfl, by simp, Rd.nil _ _ _ _⟩
  · have hll : (zs.take len).length = len := by rw [List.length_take]; omega
    refine ⟨zs.take len, hll, fun y hy => hw y (List.mem_of_mem_take hy), by simp; omega, by simp only [maxLen] at hcm; omega, fun hn => ?_⟩
    obtain ⟨b, off, spot⟩ := x
    have h0 := hc 0 (by omega)
    have hspot : spot = none := by simpa [Addr.add] using World.cell?_spot h0
    subst hspot
    refine ⟨b, off, rfl, ?_, fun j u hu => ?_⟩
    · have := World.block_lt_of_cell? w _ h0
      simpa [Addr.add] using this
    · rw [List.getElem?_map, Option.map_eq_some_iff] at hu
      obtain ⟨y, hy, rfl⟩ := hu
      rw [List.getElem?_take] at hy
      split at hy
      · rename_i hj
        have := hc j (by omega)
        rw [Addr.add_lit, List.getD_eq_getElem?_getD, hy] at this
        exact this
      · cases hy
theorem bytes_of {l : List Int} (h : ∀ x ∈ l, (Lit.int .u8 x).wf = true) : ∃ m : List UInt8, l.map (Value.int .u8) = bC m := by
  induction l with
  | nil => exact ⟨[], rfl⟩
  | cons x l ih =>
    obtain ⟨m, hm⟩ := ih fun y hy => h y (List.mem_cons_of_mem _ hy)
    have hx : 0 ≤ x ∧ x ≤ 255 := by
      have := h x List.mem_cons_self
      simp only [Lit.wf, IntKind.min, IntKind.max, Bool.and_eq_true] at this
      exact ⟨of_decide_eq_true this.1, of_decide_eq_true this.2⟩
    refine ⟨UInt8.ofNat x.toNat :: m, ?_⟩
    simp only [List.map_cons, bC, hm]
    congr 2
    simp only [UInt8.toNat_ofNat']
    omega
theorem IsRow.bytes {w : World} {a : Option Addr} {len cap : Nat} {zs : List Int} (h : IsRow .u8 w a len cap zs) : ∃ l : List UInt8, Rd w w.heap.size 1 a len (bC l) := by
  obtain ⟨l, _, hw, hr⟩ := h.rd
  obtain ⟨m, hm⟩ := bytes_of hw
  exact ⟨m, hm ▸ hr⟩
theorem IsRow.ints {w : World} {a : Option Addr} {len cap : Nat} {zs : List Int} (h : IsRow .i64 w a len cap zs) :
    ∃ l : List Int, (∀ x ∈ l, (Lit.int .i64 x).wf = true) ∧ Rd w w.heap.size 1 a len (iC l) := by
  obtain ⟨l, _, hw, hr⟩ := h.rd
  exact ⟨l, hw, hr⟩
/-- what a call gives back: a slice in new memory -/
def RetOw (e size n : Nat) (xs : List Value) (w : World) (en : Ending) (w' : World) : Prop :=
  ∃ A c, en = .returned (.slice A n c) ∧ n ≤ c ∧ Ow w' w.heap.size w'.heap.size e size A n xs ∧ Below w.heap.size w w'
def RetRow (e size n : Nat) (xs : List Value) (w : World) (en : Ending) (w' : World) : Prop :=
  ∃ A c, en = .returned (.slice A n c) ∧ n ≤ c ∧ w'.ownsRow w.heap.size e size (.slice A n c) n xs ∧ Below w.heap.size w w'
/-- a bool, or a number, and new memory that nobody sees -/
def RetV (v : Value) (w : World) (en : Ending) (w' : World) : Prop := en = .returned v ∧ Below w.heap.size w w'
theorem RetRow.ow {e size n : Nat} {xs : List Value} {w w' : World} {en : Ending} (h : RetRow e size n xs w en w') : RetOw e size n xs w en w' := by
  obtain ⟨A, c, h1, h2, h3, h4⟩ := h
  exact ⟨A, c, h1, h2, Ow.of_own h3, h4⟩
end Go.Proofs.Ytgkjgaijjihmgaa
