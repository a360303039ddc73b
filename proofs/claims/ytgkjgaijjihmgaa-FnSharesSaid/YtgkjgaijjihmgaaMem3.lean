/- append of a whole slice onto a row of the call's own; a slice cut from the left; there is no program here. -/
import Derived.Test.YtgkjgaijjihmgaaMem2
import Derived.Lib.AppendZerosOnto
namespace Go.Proofs.Ytgkjgaijjihmgaa
open Go.RowKit
section
variable {P : Program} (w : World)
theorem run_app_none (base : Nat) (t ty e : TypeId) (i : TypeInfo) (size : Nat) (ht : P.underlying t = some (.slice e)) (hi : P.info? e = some i)
    (v : Value) (n : Nat) (xs : List Value) (hown : w.ownsRow base e size v n xs) (c : Nat) : (Builtin.append_ #[t, t] ty #[v, .slice none 0 c]).run P w = .ok v w := by
  rcases hown.2 with ⟨rfl, rfl⟩ | ⟨g, cap, cur, rfl, _, _, hnc, _⟩
  · simp [Builtin.append_, run_underlying ht, sizeOf, typeInfo, hi, Builtin.lenOf, Builtin.firstCells]
  · simp [Builtin.append_, run_underlying ht, sizeOf, typeInfo, hi, Builtin.lenOf, Builtin.firstCells, hnc, storeCells]
/-- 'append(out, s...)', out a row of the call's own, s whatever reads as ys -/
theorem wpList_app {ops : Array Oper} {rest : List Oper} {o : Oper} {a : Act} {Q : Exit → Act → World → Prop} (hgd : o.guard = none) (s x : Operand) (t : TypeId)
    (ho : o.op = .call { callee := .builtin .append, args := #[s, x], argTypes := #[t, t] })
    (base e : Nat) (z : Value) (size bytes : Nat) (ht : P.underlying t = some (.slice e)) (hinfo : (P.info? e).map (fun i => (i.zero, i.size, i.bytes)) = some (some z, size, bytes)) (hzs : z.cells.size = size) (hsz : 0 < size)
    (A : Option Addr) (n c : Nat) (xs : List Value) (hs : a.eval s = .slice A n c) (hown : w.ownsRow base e size (.slice A n c) n xs)
    (A2 : Option Addr) (m c2 hi2 : Nat) (ys : List Value) (hx : a.eval x = .slice A2 m c2) (hr : Rd w hi2 size A2 m ys) (h1 : ∀ u ∈ ys, u.oneCell' = true)
    (h63 : n + m ≤ 9223372036854775807) (hbytes : (n + m) * bytes ≤ 140737488355328) (hbase : base ≤ w.heap.size)
    (h : ∀ A' c' w', n + m ≤ c' → w'.ownsRow base e size (.slice A' (n + m) c') (n + m) (xs ++ ys) → w.grownBy w' (Value.slice A n c).ownBlock → (∀ a, A' = some a → (∃ a', A = some a' ∧ a.block = a'.block) ∨ w.heap.size ≤ a.block) → wpList P ops Q rest (a.put o.dst (.slice A' (n + m) c')) w') :
    wpList P ops Q (o :: rest) a w := by
  obtain ⟨i, hi, hz, hsize, hby⟩ := info_parts hinfo
  have key : ∃ v' w', (Builtin.append_ #[t, t] o.type #[.slice A n c, .slice A2 m c2]).run P w = .ok v' w' ∧ w'.ownsRow base e size v' (n + m) (xs ++ ys) ∧ w.grownBy w' (Value.slice A n c).ownBlock ∧
      (v'.ownBlock = (Value.slice A n c).ownBlock ∨ v'.ownBlock = some w.heap.size) := by
    cases hA : A2 with
    | none =>
      subst hA
      have hm : m = 0 := by
        rcases Nat.eq_zero_or_pos m with h0 | h0
        · exact h0
        · obtain ⟨b, off, h, _⟩ := hr.2.2 h0
          cases h
      subst hm
      have hn : ys = [] := List.eq_nil_of_length_eq_zero (by simpa using hr.1)
      subst hn
      exact ⟨_, w, run_app_none w base t o.type e i size ht hi _ n xs hown c2, by simpa using hown, World.grownBy.refl w _, .inl rfl⟩
    | some ad =>
      subst hA
      have hcells : ∀ j u, ys[j]? = some u → w.cell? (ad.add j) = some u := by
        intro j u hu
        rcases Nat.eq_zero_or_pos m with h0 | h0
        · subst h0
          have hn : ys = [] := List.eq_nil_of_length_eq_zero (by simpa using hr.1)
          subst hn
          simp at hu
        · obtain ⟨b, off, h, _, hc⟩ := hr.2.2 h0
          injection h with h
          subst h
          have hadd : (⟨b, off, none⟩ : Addr).add j = ⟨b, off + j, none⟩ := by unfold Addr.add; split <;> simp_all
          rw [hadd]
          exact hc j u hu
      obtain ⟨v', w', hrun, h2, h3, _, h5⟩ := run_append_own_at (P := P) w base t o.type e i z size bytes ht hi hz hsize hby hzs hsz (.slice A n c) n xs hown ad m c2 ys hr.1 hcells h1 (by simp only [maxLen]; omega) hbytes hbase
      exact ⟨v', w', hrun, h2, h3, h5⟩
  obtain ⟨v', w', hrun, h2, h3, h5⟩ := key
  refine wpList_plain hgd fun K hK => ?_
  unfold Oper.wp execOp
  simp only [ho, resolve, invoke, builtin, Sem.run_bind, Sem.run_pure, Result.andThen_ok, List.map_toArray, List.map_cons, List.map_nil, hs, hx, hrun]
  obtain ⟨A', c', hv, hnc⟩ := own_slice h2
  subst hv
  refine hK _ _ (h A' c' w' hnc h2 h3 ?_)
  intro a' ha'
  subst ha'
  rcases h5 with h5 | h5
  · left
    cases A with
    | none => simp [Value.ownBlock] at h5
    | some a0 => exact ⟨a0, rfl, by simpa [Value.ownBlock] using h5⟩
  · right
    simp [Value.ownBlock] at h5
    omega
/-- 'append([]T(nil), make([]T, n)...)', n above 0 -/
theorem wpList_zeros {ops : Array Oper} {rest : List Oper} {o : Oper} {a : Act} {Q : Exit → Act → World → Prop} (hgd : o.guard = none) (s x : Operand) (t tn : TypeId)
    (ho : o.op = .call { callee := .builtin .append, args := #[s, x], argTypes := #[t, tn] }) (kq kn : IntKind)
    (e : Nat) (z : Value) (bytes : Nat) (ht : P.underlying t = some (.slice e)) (htn : P.underlying tn = some (.int kn)) (hinfo : (P.info? e).map (fun i => (i.zero, i.size, i.bytes)) = some (some z, 1, bytes)) (hzs : z.cells.size = 1)
    (n : Nat) (hs : a.eval s = .slice none 0 0) (hx : a.eval x = .int kq (n : Int)) (h0 : 0 < n) (hn : n ≤ 1099511627776) (hb : n * bytes ≤ 140737488355328)
    (h : ∀ c cur w', n ≤ c → c ≤ maxLen → cur.size = c → w'.heap[w.heap.size]? = some (.cells cur e (0, 0)) → Below w.heap.size w w' → wpList P ops Q rest (a.put o.dst (.slice (some ⟨w.heap.size, 0, none⟩) n c)) w') :
    wpList P ops Q (o :: rest) a w := by
  obtain ⟨i, hi, hz, hsize, hby⟩ := info_parts hinfo
  have hnc : Builtin.nextslicecap (0 + n) 0 = n := by
    unfold Builtin.nextslicecap
    rw [if_pos (by omega)]; omega
  have hbb : n * i.bytes ≤ 140737488355328 := by rw [hby]; exact hb
  have hrun := Lib.run_append_grow_zeros (P := P) w t tn o.type e i z kq kn ht htn hi hz none 0 0 [] (by simp [Builtin.firstCells]) n h0 (by omega) (by omega) (by omega) (by omega) (by rw [hnc]; omega)
  refine wpList_plain hgd fun K hK => ?_
  unfold Oper.wp execOp
  simp only [ho, resolve, invoke, builtin, Sem.run_bind, Sem.run_pure, Result.andThen_ok, List.map_toArray, List.map_cons, List.map_nil, hs, hx, hrun]
  have hge := grownCap_ge w (0 + n) 0 e
  rw [Nat.zero_add] at hge ⊢
  exact hK _ _ (h _ _ _ hge (grownCap_le_maxLen w n 0 e (by simp only [maxLen]; omega)) (by simp [size_zeroCells, hzs]; omega) (heap_alloc_new w.drew _) ((Below.refl _ _).drew.alloc (Nat.le_refl _) _))
end
section
variable {w : World} {hi lo e size n : Nat} {xs : List Value} {b off : Nat}
/-- 's[k:]' where k is no end of the array -/
theorem Rd.cut (h : Rd w hi 1 (some ⟨b, off, none⟩) n xs) {k : Nat} (hk : k ≤ n) : Rd w hi 1 (some ⟨b, off + k, none⟩) (n - k) (xs.drop k) := by
  refine ⟨by rw [List.length_drop, h.1]; omega, by have := h.2.1; omega, fun hn => ?_⟩
  obtain ⟨b', off', e, hb, hc⟩ := h.2.2 (by omega)
  injection e with e
  injection e with e1 e2
  subst e1; subst e2
  refine ⟨b, off + k, rfl, hb, fun j u hu => ?_⟩
  rw [Nat.add_assoc]
  exact hc (k + j) u (by rw [← hu, List.getElem?_drop])
theorem Ow.cut (h : Ow w lo hi e 1 (some ⟨b, off, none⟩) n xs) {k : Nat} (hk : k ≤ n) : Ow w lo hi e 1 (some ⟨b, off + k, none⟩) (n - k) (xs.drop k) := by
  refine ⟨by rw [List.length_drop, h.1]; omega, by have := h.2.1; omega, fun hn => ?_⟩
  obtain ⟨b', off', cur, e, hl, hb, hh, hc⟩ := h.2.2 (by omega)
  injection e with e
  injection e with e1 e2
  subst e1; subst e2
  refine ⟨b, off + k, cur, rfl, hl, hb, hh, fun j u hu => ?_⟩
  rw [Nat.add_assoc]
  exact hc (k + j) u (by rw [← hu, List.getElem?_drop])
end
end Go.Proofs.Ytgkjgaijjihmgaa
