/- Copies of rules, a rule put into rules; each contract says for which arguments. -/
import Derived.Test.YtmjmjloiblbhcaaDoorC19
import Derived.Test.YtmjmjloiblbhcaaDoorC20
import Derived.Test.YtmjmjloiblbhcaaDoorBE3
namespace Go.Proofs.YtmjmjloiblbhcaaDoor
open Go.RowKit
set_option maxRecDepth 100000
set_option maxHeartbeats 1000000
theorem cloneR_c (A : Option Addr) (c : Nat) (l : List Rl) (w : World) (hr : Rd w w.heap.size 2 A l.length (rC l)) (hn : l.length ≤ 100000) :
    Calls Tryd.prog 41 #[.slice A l.length c] w (RetRow 53 2 l.length (rC l) w) := by
  cases A with
  | none =>
    have h0 : l.length = 0 := by
      rcases Nat.eq_zero_or_pos l.length with h | h
      · exact h
      · obtain ⟨b, off, e, _⟩ := hr.2.2 h
        cases e
    have hl0 : l = [] := List.eq_nil_of_length_eq_zero h0
    subst hl0
    have hq := fun (W : World) => Lib.run_eql_slice_nil (P := Tryd.prog) W 24 53 none 0 c 0 0 Tryd.underlying24
    simp only [Option.isNone_none] at hq
    go_enter Tryd.func41, Tryd.ntmps41
    go_wp2_with fail
    go_ret
    exact ⟨_, _, rfl, Nat.le_refl _, World.ownsRow_nil _ _ _ _, Below.refl _ _⟩
  | some a =>
    have hq := fun (W : World) => Lib.run_eql_slice_nil (P := Tryd.prog) W 24 53 (some a) l.length c 0 0 Tryd.underlying24
    simp only [Option.isNone_some] at hq
    go_enter Tryd.func41, Tryd.ntmps41
    go_wp2_with (at_builtin; refine wpList_app _ rfl (.tmp 5) (.tmp 6) 24 rfl w.heap.size 53 _ 2 24 Tryd.underlying24 info_r rfl (by omega) _ 0 0 [] rfl (World.ownsRow_made w #[] 0 (Nat.le_refl _) (by omega) rfl) (some a) l.length c _ (rC l) rfl (hr.up ((Below.refl _ _).alloc (Nat.le_refl _) _)) (rC_one _) (by omega) (by omega) (by simp) ?_; intro A1 c1 w1 hc1 hown1 hg1 _)
    go_ret
    rw [Nat.zero_add, List.nil_append] at hown1
    rw [Nat.zero_add] at hc1
    refine ⟨A1, c1, rfl, hc1, hown1, ?_⟩
    refine Below.grown ((Below.refl _ _).alloc (Nat.le_refl _) _) hg1 (by simp) ?_
    intro k hk
    simp [Value.ownBlock] at hk
    omega
theorem insert_c (base : Nat) (A : Option Addr) (c : Nat) (l : List Rl) (i : Nat) (r : Rl) (vb : Nat) (w : World) (ho : w.ownsRow base 53 2 (.slice A l.length c) l.length (rC l)) (hb : Blk w vb 53 #[.string r.1, .int .i64 r.2]) (hbase : base ≤ w.heap.size) (hne : ∀ a, A = some a → a.block ≠ vb) (hl : l.length ≤ 100000) (hi : i ≤ l.length) :
    Calls Tryd.prog 44 #[.slice A l.length c, .int .i64 (i : Int), .slice (some ⟨vb, 0, none⟩) 1 1] w (RetIns base A (l.take i ++ r :: l.drop i) w) := by
  rcases Nat.lt_or_ge i l.length with h | h
  · obtain ⟨g, rfl, _⟩ := own_some ho (by omega)
    rcases Nat.lt_or_ge c (l.length + 1) with hc | hc
    · exact ins_grow base g c l i r vb w ho hb hbase hl h hc
    · exact ins_shift base g c l i r vb w ho hb (hne _ rfl) h hc
  · have e : i = l.length := by omega
    subst e
    rw [List.take_length, List.drop_length]
    exact ins_end base A c l r vb w ho hb hbase hl
/-- append of one element, as one operation -/
theorem push_wp {P : Program} {o : Oper} {a : Act} {K : Act → World → Prop} {Q : Exit → Act → World → Prop} (wr : World) (hgd : o.guard = none) (s x : Operand) (t : TypeId)
    (ho : o.op = .call { callee := .builtin .append, args := #[s, x], argTypes := #[t, t] })
    (base e : Nat) (z : Value) (size bytes : Nat) (ht : P.underlying t = some (.slice e)) (hinfo : (P.info? e).map (fun i => (i.zero, i.size, i.bytes)) = some (some z, size, bytes)) (hzs : z.cells.size = size) (hsz : 0 < size)
    (A : Option Addr) (n c : Nat) (xs news : List Value) (hs : a.eval s = .slice A n c) (hown : wr.ownsRow base e size (.slice A n c) n xs)
    (hx : a.eval x = .slice (some ⟨wr.heap.size, 0, none⟩) 1 1) (hl : news.length = size) (h1 : ∀ u ∈ news, u.oneCell' = true)
    (h63 : n + 1 ≤ 9223372036854775807) (hbytes : (n + 1) * bytes ≤ 140737488355328) (hbase : base ≤ wr.heap.size)
    (h : ∀ A' c' w', n + 1 ≤ c' → w'.ownsRow base e size (.slice A' (n + 1) c') (n + 1) (xs ++ news) → wr.grownBy w' (Value.slice A n c).ownBlock → (∀ a, A' = some a → (∃ a', A = some a' ∧ a.block = a'.block) ∨ wr.heap.size < a.block) → K (a.put o.dst (.slice A' (n + 1) c')) w') :
    Oper.wp P o a (wr.alloc (.cells news.toArray e)) K Q := by
  have h' := step_push (ops := #[]) (E := True) (Q := Q) wr hgd s x t ho base e z size bytes ht hinfo hzs hsz A n c xs news hs hown hx hl h1 h63 hbytes hbase h
  rwa [if_pos (by simp [Region.wanted, hgd])] at h'
/-- two policies merged: whether, under which name, which rules -/
def mgOk (nA nB : ByteArray) (a b : List Rl) : Bool := polB nA a && polB nB b && polB nA (mg a b)
def mgN (nA nB : ByteArray) (a b : List Rl) : ByteArray := if mgOk nA nB a b = true then nA else ⟨#[]⟩
def mgR (nA nB : ByteArray) (a b : List Rl) : List Rl := if mgOk nA nB a b = true then mg a b else []
def RetMg (nA nB : ByteArray) (a b : List Rl) (w : World) (en : Ending) (w' : World) : Prop :=
  ∃ A c, en = .returned (.tuple #[.agg #[.string (mgN nA nB a b), .slice A (mgR nA nB a b).length c], .bool (mgOk nA nB a b)]) ∧ (mgR nA nB a b).length ≤ c ∧
    w'.ownsRow w.heap.size 53 2 (.slice A (mgR nA nB a b).length c) (mgR nA nB a b).length (rC (mgR nA nB a b)) ∧ Below w.heap.size w w'
theorem RetMg.no {nA nB : ByteArray} {a b : List Rl} {w w' : World} (h : mgOk nA nB a b = false) (hb : Below w.heap.size w w') : RetMg nA nB a b w (.returned (.tuple #[.agg #[.string ⟨#[]⟩, .slice none 0 0], .bool false])) w' := by
  unfold RetMg mgN mgR
  rw [h, if_neg (by simp), if_neg (by simp)]
  exact ⟨none, 0, rfl, Nat.le_refl _, World.ownsRow_nil _ _ _ _, hb⟩
theorem RetMg.ok {nA nB : ByteArray} {a b : List Rl} {w w' : World} {A : Option Addr} {k c : Nat} (h : mgOk nA nB a b = true) (hk : k = (mg a b).length) (hc : k ≤ c) (ho : w'.ownsRow w.heap.size 53 2 (.slice A k c) k (rC (mg a b))) (hb : Below w.heap.size w w') :
    RetMg nA nB a b w (.returned (.tuple #[.agg #[.string nA, .slice A k c], .bool true])) w' := by
  subst hk
  unfold RetMg mgN mgR
  rw [h, if_pos rfl, if_pos rfl]
  exact ⟨A, c, rfl, hc, ho, hb⟩
/-- behind the copy: the box that is merged into -/
def MgAt (W : World) (nA : ByteArray) (a : List Rl) (p : Value) (wx : World) : Prop :=
  ∃ g A1 c1, p = .pointer (some ⟨g, 0, none⟩) ∧ W.heap.size ≤ g ∧ Blk wx g 26 #[.string nA, .slice A1 a.length c1] ∧ a.length ≤ c1 ∧ wx.ownsRow W.heap.size 53 2 (.slice A1 a.length c1) a.length (rC a) ∧ Below W.heap.size W wx
theorem Tc.below' {S : Nat → Prop} {w0 w w' : World} {b : Nat} (h : Tc S w w') (h0 : Below b w0 w) (hb : b ≤ w.heap.size) (hS : ∀ k, S k → b ≤ k) : Below b w0 w' :=
  ⟨h.os.trans h0.os, h.tape.trans h0.tape, h.output.trans h0.output, Nat.le_trans h0.size h.size, fun k hk => (h.block k (by omega) (fun e => by have := hS k e; omega)).trans (h0.block k hk)⟩
theorem own_far {w : World} {base n c g : Nat} {A : Option Addr} {xs : List Value} {cs : Array Value} (h : w.ownsRow base 53 2 (.slice A n c) n xs) (hb : Blk w g 26 cs) : ∀ a, A = some a → a.block ≠ g := by
  intro a e hg
  subst e
  obtain ⟨cur, h1, _⟩ := own_type' h
  rw [hg, hb] at h1
  injection h1 with h1
  injection h1 with _ h2
  exact absurd h2 (by decide)
end Go.Proofs.YtmjmjloiblbhcaaDoor
