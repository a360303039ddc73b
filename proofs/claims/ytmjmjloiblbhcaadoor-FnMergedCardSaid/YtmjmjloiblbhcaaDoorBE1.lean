/- Draws of numbers, sizes; worlds in which only blocks of some kind have turned; each contract says for which arguments. -/
import Derived.Test.YtmjmjloiblbhcaaDoorBD3
import Derived.Test.YtmjmjloiblbhcaaDoorCI
import Derived.Test.YtmjmjloiblbhcaaDoorCR
namespace Go.Proofs.YtmjmjloiblbhcaaDoor
open Go.RowKit
set_option maxRecDepth 100000
set_option maxHeartbeats 400000
/-- of the old blocks only those that S tells have turned -/
structure Tc (S : Nat → Prop) (w w' : World) : Prop where
  os : w'.os = w.os
  tape : w'.tape = w.tape
  output : w'.output = w.output
  size : w.heap.size ≤ w'.heap.size
  block : ∀ k, k < w.heap.size → ¬ S k → w'.heap[k]? = w.heap[k]?
theorem Tc.refl (S : Nat → Prop) (w : World) : Tc S w w := ⟨rfl, rfl, rfl, Nat.le_refl _, fun _ _ _ => rfl⟩
theorem Tc.trans {S : Nat → Prop} {a b c : World} (h : Tc S a b) (k : Tc S b c) : Tc S a c :=
  ⟨k.os.trans h.os, k.tape.trans h.tape, k.output.trans h.output, Nat.le_trans h.size k.size, fun i h1 h2 => (k.block i (Nat.lt_of_lt_of_le h1 h.size) h2).trans (h.block i h1 h2)⟩
theorem Tc.tch {S : Nat → Prop} {a w w' : World} {B : Nat} (h : Tc S a w) (k : Tch B (B + 1) w w') (hS : S B) : Tc S a w' :=
  ⟨k.os.trans h.os, k.tape.trans h.tape, k.output.trans h.output, Nat.le_trans h.size k.size, fun i h1 h2 => (k.block i (Nat.lt_of_lt_of_le h1 h.size) (fun e => h2 (by rw [show i = B by omega]; exact hS))).trans (h.block i h1 h2)⟩
theorem Tc.grow {S : Nat → Prop} {a w w' : World} {b : Nat} (h : Tc S a w) (k : Below b w w') (hb : a.heap.size ≤ b) : Tc S a w' :=
  ⟨k.os.trans h.os, k.tape.trans h.tape, k.output.trans h.output, Nat.le_trans h.size k.size, fun i h1 h2 => (k.block i (Nat.lt_of_lt_of_le h1 hb)).trans (h.block i h1 h2)⟩
theorem Tc.set {S : Nat → Prop} {a w : World} (h : Tc S a w) {p : Addr} (hp : S p.block ∨ a.heap.size ≤ p.block) (u : Value) : Tc S a (w.setCell p u) :=
  ⟨h.os, h.tape, h.output, by rw [World.size_setCell]; exact h.size, fun k hk hn => (Below.heap_setCell w p u k (by rcases hp with hp | hp; exact fun e => hn (e ▸ hp); omega)).trans (h.block k hk hn)⟩
theorem Tc.alloc {S : Nat → Prop} {a w : World} (h : Tc S a w) (o : Obj) : Tc S a (w.alloc o) := h.grow ((Below.refl w.heap.size w).alloc (Nat.le_refl _) o) h.size
theorem Tc.drew {S : Nat → Prop} {a w : World} (h : Tc S a w) : Tc S a w.drew := ⟨h.os, h.tape, h.output, h.size, h.block⟩
theorem Tc.blk {S : Nat → Prop} {w w' : World} (h : Tc S w w') {b t : Nat} {cs : Array Value} (hb : Blk w b t cs) (hS : ¬ S b) : Blk w' b t cs := (h.block b hb.lt hS).trans hb
theorem Tc.to_tch {S : Nat → Prop} {a w w' : World} {B : Nat} (h : Tc S w w') (h0 : Tch B (B + 1) a w) (hS : ∀ k, S k → k = B ∨ a.heap.size ≤ k) : Tch B (B + 1) a w' :=
  ⟨h.os.trans h0.os, h.tape.trans h0.tape, h.output.trans h0.output, Nat.le_trans h0.size h.size, fun k hk hn => (h.block k (Nat.lt_of_lt_of_le hk h0.size) (fun e => by rcases hS k e with h | h <;> omega)).trans (h0.block k hk hn)⟩
theorem Tch.grow {lo hi b : Nat} {a w w' : World} (h : Tch lo hi a w) (k : Below b w w') (hb : a.heap.size ≤ b) : Tch lo hi a w' :=
  ⟨k.os.trans h.os, k.tape.trans h.tape, k.output.trans h.output, Nat.le_trans h.size k.size, fun i h1 h2 => (k.block i (Nat.lt_of_lt_of_le h1 hb)).trans (h.block i h1 h2)⟩
theorem own_tch {w w' : World} {base e size n c B : Nat} {A : Option Addr} {xs : List Value} (h : w.ownsRow base e size (.slice A n c) n xs) (k : Tch B (B + 1) w w') (hB : B < base) : w'.ownsRow base e size (.slice A n c) n xs := by
  refine ⟨h.1, ?_⟩
  rcases h.2 with h2 | ⟨g, cap, cur, hv, hbs, hg, r⟩
  · exact .inl h2
  · exact .inr ⟨g, cap, cur, hv, hbs, (k.block _ (Array.getElem?_eq_some_iff.1 hg).1 (by omega)).trans hg, r⟩
theorem own_tc {S : Nat → Prop} {w w' : World} {base e size n c : Nat} {A : Option Addr} {xs : List Value} (h : w.ownsRow base e size (.slice A n c) n xs) (k : Tc S w w') (hS : ∀ g, base ≤ g → ¬ S g) : w'.ownsRow base e size (.slice A n c) n xs := by
  refine ⟨h.1, ?_⟩
  rcases h.2 with h2 | ⟨g, cap, cur, hv, hbs, hg, r⟩
  · exact .inl h2
  · exact .inr ⟨g, cap, cur, hv, hbs, (k.block _ (Array.getElem?_eq_some_iff.1 hg).1 (hS g hbs)).trans hg, r⟩
theorem Cur.set {w : World} {base B : Nat} (h : Cur w base B) {p : Addr} (hp : B < p.block) (u : Value) : Cur (w.setCell p u) base B :=
  h.below' (B' := B + 1) ((Below.refl _ w).setCell hp u) (Nat.lt_succ_self _)
theorem l01Size_c (A : Option Addr) (n c : Nat) (m : Nat) (w : World) (hn : n ≤ 1048576) (hm : m ≤ 64) : Calls Tryd.prog 49 #[.slice A n c, .int .i64 (m : Int)] w (fun en w' => ∃ r : Nat, r ≤ 64 ∧ en = .returned (.int .i64 (r : Int)) ∧ w' = w) := by
  have h16 : (n : Int).tdiv 16 = ((n / 16 : Nat) : Int) := by rw [Int.tdiv_eq_ediv_of_nonneg (by omega)]; omega
  have hq : n / 16 ≤ 65536 := by omega
  generalize n / 16 = q at h16 hq
  by_cases h : m < 2 + q
  · go_enter Tryd.func49, Tryd.ntmps49
    go_wp2_with fail
    go_ret
    exact ⟨m, hm, rfl, rfl⟩
  · go_enter Tryd.func49, Tryd.ntmps49
    go_wp2_with fail
    go_ret
    exact ⟨2 + q, by omega, by go_num, rfl⟩
theorem l01PickInt_c (b n c : Nat) (l : List Int) (base B : Nat) (w : World) (hc : Cur w base B) (hr : Rd w w.heap.size 1 (some ⟨b, 0, none⟩) n (iC l)) (hb : b < w.heap.size) (hne : b ≠ B) (hn0 : 0 < n) (hn : n ≤ 4096) :
    Calls Tryd.prog 77 #[.pointer (some ⟨B, 0, none⟩), .slice (some ⟨b, 0, none⟩) n c] w (CurI (fun r => r ∈ l) base B w) := by
  go_enter Tryd.func77, Tryd.ntmps77
  go_wp2_with fail
  refine (l01Below_c n base B _ hc (by omega)).mono ?_
  rintro e w1 ⟨r, ⟨r0, _, r1⟩, rfl, hc1, hm1⟩
  obtain ⟨k, rfl⟩ := Int.eq_ofNat_of_zero_le r0
  have hk : k < n := by omega
  have hr1 := hr.keepb (w' := w1) (hm1.block b hb (by omega))
  obtain ⟨b', off', e, _, hl, hcell⟩ := hr1.int_ hk
  injection e with e
  injection e with e1 e2
  subst e1; subst e2
  simp only [Nat.zero_add] at hcell
  clear hr1 r1
  go_wp2_with fail
  go_ret
  exact ⟨_, List.getElem_mem hl, rfl, hc1, hm1⟩
theorem l02DrawCaps_c (base B : Nat) (w : World) (hc : Cur w base B) : Calls Tryd.prog 76 #[.pointer (some ⟨B, 0, none⟩)] w (CurI (fun r => 0 ≤ r ∧ r ≤ 64) base B w) := by
  go_enter Tryd.func76, Tryd.ntmps76
  go_wp2_with fail
  refine (l01Below_c 64 base B _ hc (by omega)).mono ?_
  rintro e w1 ⟨r, ⟨r0, _, r1⟩, rfl, hc1, hm1⟩
  have HR := hide (show 0 ≤ r ∧ r ≤ 64 by omega)
  clear r0 r1
  go_wp2_with fail
  refine (l01Below_c 32 base B _ hc1 (by omega)).mono ?_
  rintro e w2 ⟨s, ⟨s0, _, s1⟩, rfl, hc2, hm2⟩
  have HM := hide (hm1.trans hm2)
  have HS := hide (show 0 ≤ s ∧ s ≤ 64 by omega)
  clear s0 s1 hm1 hm2
  rename_i hx
  have hbq : Below w2.heap.size w2 (w2.alloc (.cells #[.int .i64 1, .int .i64 3, .int .i64 7, .int .i64 15, .int .i64 31, .int .i64 0, .int .i64 2, .int .i64 r, .int .i64 s, .int .i64 33] 3)) := (by repeat (first | with_reducible exact Below.refl _ _ | with_reducible assumption | refine Below.alloc ?_ (by first | omega | (simp; done) | (simp; omega)) _ | refine Below.setCell ?_ (by first | omega | (simp; done) | (simp; omega)) _ | refine Below.drew ?_ | refine below_drewN ?_ _ | exact Below.refl _ _ | assumption))
  have hrd : Rd (w2.alloc (.cells #[.int .i64 1, .int .i64 3, .int .i64 7, .int .i64 15, .int .i64 31, .int .i64 0, .int .i64 2, .int .i64 r, .int .i64 s, .int .i64 33] 3)) (w2.heap.size + 1) 1 (some ⟨w2.heap.size, 0, none⟩) 10 (iC [1, 3, 7, 15, 31, 0, 2, r, s, 33]) := (Ow.made w2 #[.int .i64 1, .int .i64 3, .int .i64 7, .int .i64 15, .int .i64 31, .int .i64 0, .int .i64 2, .int .i64 r, .int .i64 s, .int .i64 33] 3 10 1 rfl (by omega)).rd
  have hne : w2.heap.size ≠ B := by have := hc2.lt; omega
  have C := l01PickInt_c w2.heap.size 10 10 [1, 3, 7, 15, 31, 0, 2, r, s, 33] base B _ (hc2.below hbq) (hrd.mono (by simp)) (by simp) hne (by omega) (by omega)
  have HB := hide hbq
  clear hrd hbq hc1 hc2
  go_wp2_with fail
  refine C.mono ?_
  rintro e w3 ⟨t, ht, rfl, hc3, hm3⟩
  have HM3 := hide ((HM.out.trans (Tch.of_below HB.out)).trans hm3)
  have HT : Hid (0 ≤ t ∧ t ≤ 64) := by
    have h1 := HR.out
    have h2 := HS.out
    simp at ht
    show _ ∧ _
    omega
  clear hm3 ht
  go_wp2_with fail
  go_ret
  exact ⟨t, HT.out, rfl, hc3, HM3.out⟩
end Go.Proofs.YtmjmjloiblbhcaaDoor
