/- Joining parts, one path under another one, the parent of a path: plain laws; there is no program here and no condition. -/
import Derived.Test.YtmjmjloiblbhcaaDoorQ2
import Derived.Lib.Join
namespace Go.Proofs.YtmjmjloiblbhcaaDoor
/-- the parts joined by the byte 47 -/
def joinB (segs : List ByteArray) : ByteArray := ⟨(joinL 47 (segs.map (fun x => x.data.toList))).toArray⟩
theorem joinB_data (segs : List ByteArray) : (joinB segs).data.toList = joinL 47 (segs.map (fun x => x.data.toList)) := rfl
theorem joinB_nil : joinB [] = ⟨#[]⟩ := rfl
theorem joinL_lib (c : UInt8) : ∀ ps, joinL c ps = Lib.join ps [c]
  | [] => rfl
  | [p] => by rw [Lib.join_one]; rfl
  | p :: q :: r => by
    rw [joinL_cons, joinL_lib c (q :: r), Lib.join_cons, Lib.join_cons]
    simp [Lib.joinTail]
theorem count_join_ge (c : UInt8) : ∀ {ps : List (List UInt8)}, ps.length ≤ (joinL c ps).count c + 1
  | [] => by simp
  | [p] => by simp
  | p :: q :: r => by
    have ih := count_join_ge c (ps := q :: r)
    rw [joinL_cons]
    simp at ih ⊢; omega
theorem count_join {c : UInt8} : ∀ {ps : List (List UInt8)}, (joinL c ps).count c + 1 = ps.length → ∀ p ∈ ps, c ∉ p
  | [], _, p, hp => by simp at hp
  | [q], h, p, hp => by
    simp at hp; subst hp
    have : p.count c = 0 := by simpa [joinL] using h
    exact List.count_eq_zero.1 this
  | q :: r :: t, h, p, hp => by
    rw [joinL_cons] at h
    have hg := count_join_ge c (ps := r :: t)
    simp at h hg
    have h1 : q.count c = 0 := by omega
    rcases List.mem_cons.1 hp with rfl | hp
    · exact List.count_eq_zero.1 h1
    · exact count_join (ps := r :: t) (by simp; omega) p hp
def noSlash (s : ByteArray) : Bool := allB (fun b => !decide (b.toNat = 47)) s
def segsOk (segs : List ByteArray) : Bool := decide (segs.length ≤ 8) && segs.all (fun s => decide (s.size ≤ 16) && noSlash s)
theorem noSlash_iff {s : ByteArray} : noSlash s = true ↔ (47 : UInt8) ∉ s.data.toList := by
  unfold noSlash allB
  rw [List.all_eq_true]
  constructor
  · intro h hm; have := h _ hm; simp at this
  · intro h b hb
    have : b ≠ 47 := fun e => h (e ▸ hb)
    simp; intro e; exact this (UInt8.toNat.inj e)
theorem prt_join {segs : List ByteArray} (h0 : segs ≠ []) (h : ∀ s ∈ segs, (47 : UInt8) ∉ s.data.toList) : prt 47 (joinB segs) = segs := by
  unfold prt
  rw [joinB_data, parts_join (by simpa using h0) (by simpa using h)]
  exact map_mk segs
theorem prt_nil : prt 47 (⟨#[]⟩ : ByteArray) = [⟨#[]⟩] := rfl
theorem globB_nil : globB ⟨#[]⟩ = false := by decide
/-- the program's test and the reference's test -/
theorem join_spec (segs : List ByteArray) : (globB (joinB segs) && decide ((prt 47 (joinB segs)).length = segs.length)) = (segsOk segs && globB (joinB segs)) := by
  rw [Bool.eq_iff_iff]
  by_cases h0 : segs = []
  · subst h0; rw [joinB_nil, globB_nil]; simp
  simp only [Bool.and_eq_true, decide_eq_true_eq, segsOk, List.all_eq_true]
  constructor
  · rintro ⟨hg, hl⟩
    rw [prt_length, joinB_data, partsL_length] at hl
    have hc := count_join (c := 47) (ps := segs.map (fun x => x.data.toList)) (by simpa using hl)
    have hf : ∀ s ∈ segs, (47 : UInt8) ∉ s.data.toList := fun s hs => hc _ (List.mem_map.2 ⟨s, hs, rfl⟩)
    have hp := prt_join h0 hf
    obtain ⟨g1, g2, g3⟩ := globB_true.1 hg
    rw [hp] at g2 g3
    refine ⟨⟨g3, fun s hs => ?_⟩, hg⟩
    obtain ⟨i, hi, rfl⟩ := List.getElem_of_mem hs
    exact ⟨(okAt_free hi (g2 i hi)).2.1, noSlash_iff.2 (hf _ hs)⟩
  · rintro ⟨⟨_, h⟩, hg⟩
    have hf : ∀ s ∈ segs, (47 : UInt8) ∉ s.data.toList := fun s hs => noSlash_iff.1 (h s hs).2
    exact ⟨hg, by rw [prt_join h0 hf]⟩
theorem join_prt (s : ByteArray) : joinB (prt 47 s) = s := by
  apply ext_data
  rw [joinB_data, prt_data, joinL_parts]
/-! under -/
def underL (p q : List UInt8) : Bool := (p ++ [47]).isPrefixOf (q ++ [47])
theorem underL_iff {p q : List UInt8} : underL p q = true ↔ q = p ∨ (p.length < q.length ∧ q.take p.length = p ∧ q[p.length]? = some 47) := by
  unfold underL
  rw [List.isPrefixOf_iff_prefix]
  constructor
  · rintro ⟨t, ht⟩
    by_cases h0 : t = []
    · subst h0
      rw [List.append_nil] at ht
      exact .inl (List.append_cancel_right ht).symm
    · right
      have hl := congrArg List.length ht
      have htl : 0 < t.length := List.length_pos_iff.2 h0
      simp at hl
      have hlt : p.length < q.length := by omega
      refine ⟨hlt, ?_, ?_⟩
      · have := congrArg (List.take p.length) ht
        rw [List.append_assoc, List.take_left, List.take_append_of_le_length (by omega)] at this
        exact this.symm
      · have := congrArg (fun l => l[p.length]?) ht
        simp only [List.append_assoc] at this
        rw [List.getElem?_append_right (Nat.le_refl _), List.getElem?_append_left hlt] at this
        rw [← this]; simp
  · rintro (rfl | ⟨h1, h2, h3⟩)
    · exact ⟨[], by simp⟩
    · have h4 : q[p.length] = 47 := by rw [List.getElem?_eq_getElem h1] at h3; exact Option.some.inj h3
      refine ⟨q.drop (p.length + 1) ++ [47], ?_⟩
      have h5 : p ++ [47] ++ q.drop (p.length + 1) = q := by
        conv => rhs; rw [← List.take_append_drop p.length q, h2, List.drop_eq_getElem_cons h1, h4]
        simp
      rw [← List.append_assoc, h5]
theorem underL_len {p q : List UInt8} (h : q.length < p.length) : underL p q = false := by
  cases e : underL p q with
  | false => rfl
  | true =>
    rcases underL_iff.1 e with rfl | ⟨h1, _⟩ <;> omega
/-! the parent -/
theorem joinL_snoc (c : UInt8) (q : List UInt8) : ∀ {ps : List (List UInt8)}, ps ≠ [] → joinL c (ps ++ [q]) = joinL c ps ++ c :: q
  | [], h => absurd rfl h
  | [p], _ => rfl
  | p :: r :: t, _ => by
    have ih := joinL_snoc c q (ps := r :: t) (by simp)
    show p ++ c :: joinL c (r :: t ++ [q]) = _
    rw [ih, joinL_cons]; simp
theorem parts_last {c : UInt8} {l : List UInt8} (h : 2 ≤ (partsL c l).length) : l = joinL c (partsL c l).dropLast ++ c :: (partsL c l).getLast (partsL_ne c l) := by
  have hd : (partsL c l).dropLast ≠ [] := by
    intro e; have := congrArg List.length e; simp at this; omega
  conv => lhs; rw [← joinL_parts c l, ← List.dropLast_concat_getLast (partsL_ne c l)]
  exact joinL_snoc c _ hd
theorem parts_pre {c : UInt8} {l : List UInt8} (h : 2 ≤ (partsL c l).length) : partsL c (joinL c (partsL c l).dropLast) = (partsL c l).dropLast := by
  have hd : (partsL c l).dropLast ≠ [] := by
    intro e; have := congrArg List.length e; simp at this; omega
  exact parts_join hd fun p hp => partsL_free (List.dropLast_subset _ hp)
theorem parts_one {c : UInt8} {l : List UInt8} (h : (partsL c l).length = 1) : c ∉ l := by
  rw [partsL_length] at h
  exact List.count_eq_zero.1 (by omega)
theorem arr_get (s : ByteArray) (j : Nat) (h : j < s.data.toList.length) : s.data[j]! = s.data.toList[j] := by
  have h' : j < s.data.size := by simpa using h
  rw [getElem!_pos s.data j h']; simp
theorem last_none {s : ByteArray} (h : (prt 47 s).length = 1) : Lib.lastIndexByte s 47 = -1 := by
  rw [prt_length] at h
  have hn := parts_one h
  rcases Lib.lastIndexByte_spec s 47 with ⟨h1, _⟩ | ⟨i, hi, _, h2, _⟩
  · exact h1
  · exfalso
    have hi' : i < s.data.toList.length := by simpa using hi
    rw [arr_get s i hi'] at h2
    exact hn ((UInt8.toNat.inj (by show _ = 47; omega) : s.data.toList[i] = 47) ▸ List.getElem_mem hi')
/-- the text ahead of the last byte 47 -/
def parentB (s : ByteArray) : ByteArray := joinB (prt 47 s).dropLast
theorem parentB_data (s : ByteArray) : (parentB s).data.toList = joinL 47 (partsL 47 s.data.toList).dropLast := by
  unfold parentB
  rw [joinB_data, List.map_dropLast, prt_data]
theorem parentB_prt {s : ByteArray} (h : 2 ≤ (prt 47 s).length) : prt 47 (parentB s) = (prt 47 s).dropLast := by
  rw [prt_length] at h
  unfold prt
  rw [parentB_data, parts_pre h, List.map_dropLast]
theorem prt_getLast (s : ByteArray) : ∃ q, (prt 47 s).getLast? = some q ∧ q.data.toList = (partsL 47 s.data.toList).getLast (partsL_ne _ _) := by
  refine ⟨⟨((partsL 47 s.data.toList).getLast (partsL_ne _ _)).toArray⟩, ?_, rfl⟩
  unfold prt
  rw [List.getLast?_map, List.getLast?_eq_some_getLast (partsL_ne _ _)]; rfl
theorem parent_data {s : ByteArray} (h : 2 ≤ (prt 47 s).length) {q : ByteArray} (hq : (prt 47 s).getLast? = some q) : s.data.toList = (parentB s).data.toList ++ 47 :: q.data.toList := by
  obtain ⟨q', h1, h2⟩ := prt_getLast s
  rw [hq] at h1
  cases h1
  rw [prt_length] at h
  rw [h2, parentB_data]
  exact parts_last h
theorem last_free {s : ByteArray} {q : ByteArray} (hq : (prt 47 s).getLast? = some q) : (47 : UInt8) ∉ q.data.toList := by
  obtain ⟨q', h1, h2⟩ := prt_getLast s
  rw [hq] at h1
  cases h1
  rw [h2]
  exact partsL_free (List.getLast_mem _)
theorem last_some {s : ByteArray} (h : 2 ≤ (prt 47 s).length) : Lib.lastIndexByte s 47 = (parentB s).size := by
  obtain ⟨q, hq, _⟩ := prt_getLast s
  have hd := parent_data h hq
  have hf := last_free hq
  have hsz : (parentB s).size = (parentB s).data.toList.length := rfl
  have hl := congrArg List.length hd
  simp only [List.length_append, List.length_cons] at hl
  have hget : ∀ j (hj : j < s.data.toList.length), s.data.toList[j] = ((parentB s).data.toList ++ 47 :: q.data.toList)[j]'(by rw [← hd]; exact hj) := fun j hj => List.getElem_of_eq hd hj
  have hss : s.size = s.data.toList.length := rfl
  have hat : ((s.data[(parentB s).data.toList.length]!).toNat : Int) = 47 := by
    rw [arr_get s _ (by omega), hget _ (by omega), List.getElem_append_right (Nat.le_refl _)]; simp
  rcases Lib.lastIndexByte_spec s 47 with ⟨_, h1⟩ | ⟨i, hi, h1, h2, h3⟩
  · exact absurd hat (h1 _ (by omega))
  · rw [h1, hsz]
    by_cases e : i < (parentB s).data.toList.length
    · exact absurd hat (h3 _ e (by omega))
    · by_cases e2 : i = (parentB s).data.toList.length
      · rw [e2]
      · exfalso
        rw [arr_get s _ (by omega), hget _ (by omega), List.getElem_append_right (by omega)] at h2
        obtain ⟨m, hm⟩ : ∃ m, i - (parentB s).data.toList.length = m + 1 := ⟨i - (parentB s).data.toList.length - 1, by omega⟩
        simp only [hm, List.getElem_cons_succ] at h2
        have hm2 : m < q.data.toList.length := by omega
        have h4 : q.data.toList[m] = 47 := UInt8.toNat.inj (by show q.data.toList[m].toNat = 47; omega)
        exact hf (h4 ▸ List.getElem_mem hm2)
theorem path_seg {s : ByteArray} (h : pathB s = true) {i : Nat} (hi : i < (prt 47 s).length) : segB (prt 47 s)[i] = true := by
  simp only [pathB, Bool.and_eq_true] at h
  have h1 := (globB_true.1 h.1).2.1 i hi
  obtain ⟨h2, h3⟩ := path_no_star h.2 (List.getElem_mem hi)
  rw [okAt_get hi, h2, h3] at h1
  simpa using h1
theorem all_of_sub {f : UInt8 → Bool} {a b : ByteArray} (h : allB f b = true) (hs : ∀ x ∈ a.data.toList, x ∈ b.data.toList) : allB f a = true := by
  unfold allB at *
  rw [List.all_eq_true] at *
  exact fun x hx => h x (hs x hx)
theorem parent_path {s : ByteArray} (h : pathB s = true) (h2 : 2 ≤ (prt 47 s).length) : pathB (parentB s) = true := by
  obtain ⟨q, hq, _⟩ := prt_getLast s
  have hd := parent_data h2 hq
  have hp := parentB_prt h2
  have h' := h
  simp only [pathB, Bool.and_eq_true] at h ⊢
  obtain ⟨g1, g2, g3⟩ := globB_true.1 h.1
  have hl := congrArg List.length hd
  simp only [List.length_append, List.length_cons] at hl
  have hs1 : (parentB s).size = (parentB s).data.toList.length := rfl
  have hs2 : s.size = s.data.toList.length := rfl
  refine ⟨globB_true.2 ⟨by omega, ?_, ?_⟩, ?_⟩
  · intro j hj
    rw [okAt_get hj]
    have hj' : j < (prt 47 s).length := by rw [hp] at hj; simp at hj; omega
    have : (prt 47 (parentB s))[j] = (prt 47 s)[j] := by simp [hp]
    rw [this, path_seg h' hj']; rfl
  · rw [hp]; simp; omega
  · exact all_of_sub h.2 fun x hx => by rw [hd]; exact List.mem_append_left _ hx
theorem parent_under {s : ByteArray} (h2 : 2 ≤ (prt 47 s).length) : underL (parentB s).data.toList s.data.toList = true ∧ underL s.data.toList (parentB s).data.toList = false := by
  obtain ⟨q, hq, _⟩ := prt_getLast s
  have hd := parent_data h2 hq
  have hl := congrArg List.length hd
  simp only [List.length_append, List.length_cons] at hl
  refine ⟨underL_iff.2 (.inr ⟨by omega, ?_, ?_⟩), underL_len (by omega)⟩
  · rw [hd]; simp
  · rw [hd]; simp
end Go.Proofs.YtmjmjloiblbhcaaDoor
