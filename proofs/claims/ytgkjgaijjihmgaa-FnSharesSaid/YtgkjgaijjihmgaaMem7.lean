/- append of one element, in a region that draws its order; there is no program here. -/
import Derived.Test.YtgkjgaijjihmgaaMem6
import Derived.Deep.AppendLies
namespace Go.Proofs.Ytgkjgaijjihmgaa
open Go.RowKit
/-- 'append(out, x)' at a step of a region that draws its order: out a row of the call's own, x in the newest block -/
theorem step_push {P : Program} {ops : Array Oper} {o : Oper} {a : Act} {K : Act → World → Prop} {Q : Exit → Act → World → Prop} {E : Prop} (wr : World) (hgd : o.guard = none) (s x : Operand) (t : TypeId)
    (ho : o.op = .call { callee := .builtin .append, args := #[s, x], argTypes := #[t, t] })
    (base e : Nat) (z : Value) (size bytes : Nat) (ht : P.underlying t = some (.slice e)) (hinfo : (P.info? e).map (fun i => (i.zero, i.size, i.bytes)) = some (some z, size, bytes)) (hzs : z.cells.size = size) (hsz : 0 < size)
    (A : Option Addr) (n c : Nat) (xs news : List Value) (hs : a.eval s = .slice A n c) (hown : wr.ownsRow base e size (.slice A n c) n xs)
    (hx : a.eval x = .slice (some ⟨wr.heap.size, 0, none⟩) 1 1) (hl : news.length = size) (h1 : ∀ u ∈ news, u.oneCell' = true)
    (h63 : n + 1 ≤ 9223372036854775807) (hbytes : (n + 1) * bytes ≤ 140737488355328) (hbase : base ≤ wr.heap.size)
    (h : ∀ A' c' w', n + 1 ≤ c' → w'.ownsRow base e size (.slice A' (n + 1) c') (n + 1) (xs ++ news) → wr.grownBy w' (Value.slice A n c).ownBlock → (∀ a, A' = some a → (∃ a', A = some a' ∧ a.block = a'.block) ∨ wr.heap.size < a.block) → K (a.put o.dst (.slice A' (n + 1) c')) w') :
    if Region.wanted o (yielded ops a.tmps) = true then Oper.wp P o a (wr.alloc (.cells news.toArray e)) K Q else E := by
  have hw : Region.wanted o (yielded ops a.tmps) = true := by simp [Region.wanted, hgd]
  rw [if_pos hw]
  obtain ⟨i, hi, hz, hsize, hby⟩ := info_parts hinfo
  have hnews : ∀ j u, news[j]? = some u → (wr.alloc (.cells news.toArray e)).cell? ((⟨wr.heap.size, 0, none⟩ : Addr).add j) = some u := by
    intro j u hu
    have hadd : (⟨wr.heap.size, 0, none⟩ : Addr).add j = ⟨wr.heap.size, j, none⟩ := by unfold Addr.add; split <;> simp_all
    rw [hadd, cell_of_row _ wr.heap.size j news.toArray e (0, 0) (heap_alloc_new wr _)]
    simpa using hu
  obtain ⟨v', w', hrun, h2, h3, _, h5⟩ := run_append_own_at (P := P) (wr.alloc (.cells news.toArray e)) base t o.type e i z size bytes ht hi hz hsize hby hzs hsz (.slice A n c) n xs (hown.alloc _) ⟨wr.heap.size, 0, none⟩ 1 1 news
    (by rw [hl]; omega) hnews h1 (by simp only [maxLen]; omega) hbytes (by simp; omega)
  unfold Oper.wp execOp
  simp only [ho, resolve, invoke, builtin, Sem.run_bind, Sem.run_pure, Result.andThen_ok, List.map_toArray, List.map_cons, List.map_nil, hs, hx, hrun]
  obtain ⟨A', c', hv, hnc⟩ := own_slice h2
  subst hv
  refine (h A' c' w' hnc h2 ⟨h3.os, h3.tape, h3.output, by have := h3.size; simp at this; omega, fun k hk hne => (h3.block k (by simp; omega) hne).trans (Below.heap_alloc wr _ k hk)⟩ ?_)
  intro ad had
  rcases h5 with h5 | h5
  · left
    subst had
    cases A with
    | none => simp [Value.ownBlock] at h5
    | some a' => exact ⟨a', rfl, by simpa [Value.ownBlock] using h5⟩
  · right
    subst had
    simp [Value.ownBlock] at h5
    omega
theorem far_cell {w w' : World} {A : Option Addr} {n c : Nat} (hg : w.grownBy w' (Value.slice A n c).ownBlock) (b o : Nat) (hlt : b < w.heap.size) (hne : ∀ a, A = some a → a.block ≠ b) : w'.cell? ⟨b, o, none⟩ = w.cell? ⟨b, o, none⟩ := by
  refine hg.cell_far ⟨b, o, none⟩ hlt ?_
  cases A with
  | none => simp [Value.ownBlock]
  | some a => simpa [Value.ownBlock] using fun e : b = a.block => hne a rfl e.symm
theorem far_block {w w' : World} {A : Option Addr} {n c : Nat} (hg : w.grownBy w' (Value.slice A n c).ownBlock) (b : Nat) (hlt : b < w.heap.size) (hne : ∀ a, A = some a → a.block ≠ b) : w'.heap[b]? = w.heap[b]? := by
  refine hg.block b hlt ?_
  cases A with
  | none => simp [Value.ownBlock]
  | some a => simpa [Value.ownBlock] using fun e : b = a.block => hne a rfl e.symm
theorem Rd.keepb {w w' : World} {hi size n b off : Nat} {xs : List Value} (h : Rd w hi size (some ⟨b, off, none⟩) n xs) (hk : w'.heap[b]? = w.heap[b]?) : Rd w' hi size (some ⟨b, off, none⟩) n xs :=
  ⟨h.1, h.2.1, fun hn => by
    obtain ⟨b', off', e, hb, hc⟩ := h.2.2 hn
    injection e with e
    injection e with e1 e2
    subst e1; subst e2
    exact ⟨b, off, rfl, hb, fun j u hu => (World.cell?_of_block hk).trans (hc j u hu)⟩⟩
theorem ShW.setDD {w w' : World} {lo hi e n k : Nat} {A : Option Addr} {hs : List (Option Addr × Nat)} {ss : List Sh} {x : Int} {d : List UInt8} (h : ShW w lo hi e A n hs (ss.set k (x, d))) (he : e ≠ 5) (hk : k < ss.length) (Ak : Option Addr) (ck : Nat) (hkk : ∀ h, hs[k]'h = (Ak, ck))
    (l : List UInt8) (hll : l.length = d.length) (hz : hi ≤ w.heap.size) (ho : Ow w' lo hi 5 1 Ak d.length (bC l)) (hg : w.grownBy w' (if d.length = 0 then none else Ak.map (·.block))) : ShW w' lo hi e A n hs (ss.set k (x, l)) := by
  by_cases h0 : d.length = 0
  · have hd0 : d = [] := List.eq_nil_of_length_eq_zero h0
    have hl0 : l = [] := List.eq_nil_of_length_eq_zero (by omega)
    subst hd0; subst hl0
    rw [if_pos h0] at hg
    exact h.keep fun b _ hh => hg.block b (by omega) (by simp)
  · rw [if_neg h0] at hg
    have hk' : k < (ss.set k (x, d)).length := by rw [List.length_set]; exact hk
    have := h.setD (w' := w') (k := k) he hk' l (by simpa using hll) (by omega) hz (by
      rw [hkk]
      simpa using ho) (by
      rw [hkk]
      exact hg)
    simpa using this
theorem cell_set_far {w : World} {b o : Nat} {p : Addr} {u v : Value} (h : w.cell? ⟨b, o, none⟩ = some v) (hne : b ≠ p.block) : (w.setCell p u).cell? ⟨b, o, none⟩ = some v :=
  (World.cell?_of_block (Below.heap_setCell w p u b hne)).trans h
theorem cell_old {w w' : World} {B b o : Nat} {v : Value} (h : w.cell? ⟨b, o, none⟩ = some v) (hb : Below B w w') (hlt : b < B) : w'.cell? ⟨b, o, none⟩ = some v := (hb.cell (p := ⟨b, o, none⟩) hlt).trans h
theorem u8x (a b : UInt8) : bits .xor .u8 (a.toNat : Int) (b.toNat : Int) = ((a ^^^ b).toNat : Int) := by
  show IntKind.u8.wrap ((BitVec.ofInt 8 (a.toNat : Int) ^^^ BitVec.ofInt 8 (b.toNat : Int)).toNat : Int) = _
  have h1 := a.toNat_lt
  have h2 := b.toNat_lt
  rw [BitVec.toNat_xor, ofInt_u8 _ h1, ofInt_u8 _ h2, IntKind.wrap_u8', UInt8.toNat_xor]
  have : a.toNat ^^^ b.toNat < 2 ^ 8 := Nat.xor_lt_two_pow h1 h2
  omega
end Go.Proofs.Ytgkjgaijjihmgaa
