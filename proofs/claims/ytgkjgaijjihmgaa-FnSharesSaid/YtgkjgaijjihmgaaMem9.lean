/- append of one element at a step of a region that draws its order, in whatever world; there is no program here. -/
import Derived.Test.YtgkjgaijjihmgaaMem7
import Derived.Deep.AppendLies
namespace Go.Proofs.Ytgkjgaijjihmgaa
open Go.RowKit
theorem cell_al {w : World} {b o : Nat} {v : Value} (h : w.cell? ⟨b, o, none⟩ = some v) (hlt : b < w.heap.size) (ob : Obj) : (w.alloc ob).cell? ⟨b, o, none⟩ = some v :=
  cell_old h ((Below.refl w.heap.size w).alloc (Nat.le_refl _) ob) hlt
theorem Blk.step1 {w w' : World} {b t : Nat} {cs : Array Value} (hb : Below w.heap.size w w') (h : Blk w b t cs) : Blk w' b t cs := (h.step hb).1
theorem step_app1 {P : Program} {w : World} {ops : Array Oper} {o : Oper} {a : Act} {K : Act → World → Prop} {Q : Exit → Act → World → Prop} {E : Prop} (hgd : o.guard = none) (s x : Operand) (t : TypeId)
    (ho : o.op = .call { callee := .builtin .append, args := #[s, x], argTypes := #[t, t] })
    (base e : Nat) (z : Value) (size bytes : Nat) (ht : P.underlying t = some (.slice e)) (hinfo : (P.info? e).map (fun i => (i.zero, i.size, i.bytes)) = some (some z, size, bytes)) (hzs : z.cells.size = size) (hsz : 0 < size)
    (A : Option Addr) (n c : Nat) (xs news : List Value) (hs : a.eval s = .slice A n c) (hxB : ∃ B, a.eval x = .slice (some ⟨B, 0, none⟩) 1 1 ∧ Blk w B e news.toArray) (hl : news.length = size) (h1 : ∀ u ∈ news, u.oneCell' = true)
    (hown : w.ownsRow base e size (.slice A n c) n xs)
    (h63 : n + 1 ≤ 9223372036854775807) (hbytes : (n + 1) * bytes ≤ 140737488355328) (hbase : base ≤ w.heap.size)
    (h : ∀ A' c' w', n + 1 ≤ c' → w'.ownsRow base e size (.slice A' (n + 1) c') (n + 1) (xs ++ news) → Below base w w' → (∀ g t cs, t ≠ e → Blk w g t cs → Blk w' g t cs) → K (a.put o.dst (.slice A' (n + 1) c')) w') :
    if Region.wanted o (yielded ops a.tmps) = true then Oper.wp P o a w K Q else E := by
  obtain ⟨i, hi, hz, hsize, hby⟩ := info_parts hinfo
  obtain ⟨B, hx, hB⟩ := hxB
  refine step_append_lies w hgd s x t ho base e i z size bytes ht hi hz hsize hby hzs hsz (.slice A n c) n xs hs hown ⟨B, 0, none⟩ 1 1 news hx (by omega) (by have := World.news_of_block hB; simpa using this) h1 (by omega) (by simp only [maxLen]; omega) hbytes hbase _ rfl ?_
  intro g cap w' hown' hg hat hlt
  have hc : n + 1 ≤ cap := by
    obtain ⟨_, _, hv, hnc⟩ := own_slice hown'
    injection hv with _ _ h3
    omega
  refine h _ _ _ hc hown' (grown_below hown hg hbase) ?_
  intro b t' cs hne hb
  refine (far_block hg b hb.lt ?_).trans hb
  intro ad had hbad
  subst had
  obtain ⟨cur, hcur, _⟩ := own_type hown
  rw [hbad] at hcur
  have hb2 : w.heap[b]? = some (.cells cs t' (0, 0)) := hb
  rw [hcur] at hb2
  injection hb2 with hb2
  injection hb2 with _ h4
  exact hne h4.symm
theorem own_setfar {w : World} {base e size n c g t : Nat} {A : Option Addr} {xs : List Value} {cs : Array Value} (h : w.ownsRow base e size (.slice A n c) n xs) (z : Blk w g t cs) (hne : t ≠ e) (i : Nat) (u : Value) :
    (w.setCell ⟨g, i, none⟩ u).ownsRow base e size (.slice A n c) n xs := own_keep h fun a ha => by
  subst ha
  obtain ⟨cur, hcur, _⟩ := own_type h
  refine Below.heap_setCell w ⟨g, i, none⟩ u a.block ?_
  intro hab
  rw [hab] at hcur
  have hb2 : w.heap[g]? = some (.cells cs t (0, 0)) := z
  rw [hcur] at hb2
  injection hb2 with hb2
  injection hb2 with _ h4
  exact hne h4.symm
end Go.Proofs.Ytgkjgaijjihmgaa
