/- Parting a text at each byte of one kind, and what the library's Split gives; there is no program here and no condition. -/
import Derived.Lib.Split
import Derived.Lib.LastIndexByte
namespace Go.Proofs.YtmjmjloiblbhcaaDoor
/-- the parts of a text between the bytes c -/
def partsL (c : UInt8) : List UInt8 → List (List UInt8)
  | [] => [[]]
  | x :: xs => if x = c then [] :: partsL c xs else (x :: (partsL c xs).headD []) :: (partsL c xs).tail
theorem partsL_pos (c : UInt8) : ∀ l, 0 < (partsL c l).length
  | [] => by simp [partsL]
  | x :: xs => by unfold partsL; split <;> simp
theorem partsL_ne (c : UInt8) (l : List UInt8) : partsL c l ≠ [] := fun h => by have := partsL_pos c l; rw [h] at this; simp at this
theorem partsL_cons (c : UInt8) (l : List UInt8) : partsL c l = (partsL c l).headD [] :: (partsL c l).tail := by
  have h := partsL_ne c l
  generalize partsL c l = q at h ⊢
  cases q with
  | nil => exact absurd rfl h
  | cons a t => rfl
theorem partsL_none {c : UInt8} : ∀ {l : List UInt8}, c ∉ l → partsL c l = [l]
  | [], _ => rfl
  | x :: xs, h => by
    have h1 : ¬ x = c := fun e => h (by rw [e]; exact List.mem_cons_self)
    have h2 := partsL_none (l := xs) (fun e => h (List.mem_cons_of_mem _ e))
    unfold partsL
    rw [if_neg h1, h2]; rfl
theorem partsL_append {c : UInt8} : ∀ {l : List UInt8} (r : List UInt8), c ∉ l → partsL c (l ++ c :: r) = l :: partsL c r
  | [], r, _ => by show partsL c (c :: r) = _; rw [partsL, if_pos rfl]
  | x :: xs, r, h => by
    have h1 : ¬ x = c := fun e => h (by rw [e]; exact List.mem_cons_self)
    have h2 := partsL_append (l := xs) r (fun e => h (List.mem_cons_of_mem _ e))
    show partsL c (x :: (xs ++ c :: r)) = _
    rw [partsL, if_neg h1, h2]; rfl
theorem partsL_free {c : UInt8} : ∀ {l : List UInt8} {p : List UInt8}, p ∈ partsL c l → c ∉ p
  | [], p, h => by simp [partsL] at h; subst h; simp
  | x :: xs, p, h => by
    unfold partsL at h
    split at h
    · rcases List.mem_cons.1 h with rfl | h
      · simp
      · exact partsL_free h
    · rename_i hx
      rcases List.mem_cons.1 h with rfl | h
      · intro hc
        rcases List.mem_cons.1 hc with rfl | hc
        · exact hx rfl
        · refine partsL_free (l := xs) (p := (partsL c xs).headD []) ?_ hc
          rw [partsL_cons c xs]; exact List.mem_cons_self
      · refine partsL_free (l := xs) ?_
        rw [partsL_cons c xs]; exact List.mem_cons_of_mem _ h
/-- the parts joined again -/
def joinL (c : UInt8) : List (List UInt8) → List UInt8
  | [] => []
  | [p] => p
  | p :: q :: r => p ++ c :: joinL c (q :: r)
theorem joinL_cons (c : UInt8) (p q : List UInt8) (r : List (List UInt8)) : joinL c (p :: q :: r) = p ++ c :: joinL c (q :: r) := rfl
theorem joinL_head (c x : UInt8) (p : List UInt8) : ∀ (r : List (List UInt8)), joinL c ((x :: p) :: r) = x :: joinL c (p :: r)
  | [] => rfl
  | _ :: _ => rfl
theorem joinL_parts (c : UInt8) : ∀ l, joinL c (partsL c l) = l
  | [] => rfl
  | x :: xs => by
    have ih := joinL_parts c xs
    unfold partsL
    split
    · rename_i h; subst h
      rw [partsL_cons x xs] at ih ⊢
      rw [joinL_cons, ih]; rfl
    · rw [joinL_head, ← partsL_cons, ih]
theorem parts_join {c : UInt8} : ∀ {ps : List (List UInt8)}, ps ≠ [] → (∀ p ∈ ps, c ∉ p) → partsL c (joinL c ps) = ps
  | [], h, _ => absurd rfl h
  | [p], _, h => partsL_none (h p (by simp))
  | p :: q :: r, _, h => by
    rw [joinL_cons, partsL_append _ (h p (by simp)), parts_join (by simp) (fun x hx => h x (List.mem_cons_of_mem _ hx))]
theorem partsL_length (c : UInt8) : ∀ l, (partsL c l).length = l.count c + 1
  | [] => rfl
  | x :: xs => by
    have ih := partsL_length c xs
    unfold partsL
    split
    · rename_i h; subst h; simp [ih]
    · rename_i h
      have := partsL_pos c xs
      simp [ih, h]
/-- a text made longer by one byte -/
theorem partsL_snoc (c x : UInt8) : ∀ l, partsL c (l ++ [x]) = if x = c then partsL c l ++ [[]] else (partsL c l).dropLast ++ [(partsL c l).getLastD [] ++ [x]]
  | [] => by
    show partsL c [x] = _
    unfold partsL
    split <;> simp [partsL]
  | y :: ys => by
    have ih := partsL_snoc c x ys
    have hn := partsL_cons c ys
    show partsL c (y :: (ys ++ [x])) = _
    rw [partsL, ih]
    conv => rhs; rw [partsL]
    generalize partsL c ys = q at hn ⊢
    obtain ⟨a, t, rfl⟩ : ∃ a t, q = a :: t := ⟨_, _, hn⟩
    clear hn ih
    by_cases h1 : x = c <;> by_cases h2 : y = c
    · simp [h1, h2]
    · simp [h1, h2]
    · simp only [if_neg h1, if_pos h2]
      simp [List.dropLast_cons_of_ne_nil]
    · simp only [if_neg h1, if_neg h2]
      cases t with
      | nil => simp
      | cons b t => simp [List.dropLast_cons_of_ne_nil]
theorem partsL_take_snoc (c : UInt8) (l : List UInt8) (i : Nat) (hi : i < l.length) (at_ : Nat) (out : List (List UInt8)) (ha : at_ ≤ i) (h : partsL c (l.take i) = out ++ [(l.take i).drop at_]) :
    (l[i] = c → partsL c (l.take (i + 1)) = (out ++ [(l.take i).drop at_]) ++ [(l.take (i + 1)).drop (i + 1)]) ∧
      (l[i] ≠ c → partsL c (l.take (i + 1)) = out ++ [(l.take (i + 1)).drop at_]) := by
  rw [List.take_succ_eq_append_getElem hi, partsL_snoc, h]
  constructor
  · intro hc
    rw [if_pos hc]
    simp
  · intro hc
    rw [if_neg hc]
    have : (l.take i ++ [l[i]]).drop at_ = (l.take i).drop at_ ++ [l[i]] := by
      rw [List.drop_append_of_le_length (by simp; omega)]
    rw [this]
    simp
/-! what the library's Split gives -/
theorem index_cons (c x : UInt8) (l : List UInt8) : Lib.index (x :: l) [c] = if x = c then 0 else if Lib.index l [c] == -1 then -1 else Lib.index l [c] + 1 := by
  conv => lhs; unfold Lib.index
  by_cases h : x = c
  · subst h; simp [List.isPrefixOf]
  · simp [List.isPrefixOf, h, Ne.symm h]
theorem index_nil (c : UInt8) : Lib.index [] [c] = -1 := by simp [Lib.index]
theorem index_mem (c : UInt8) : ∀ l, Lib.index l [c] = -1 ↔ c ∉ l
  | [] => by simp [index_nil]
  | x :: xs => by
    have ih := index_mem c xs
    have hg := Lib.index_ge xs [c]
    rw [index_cons]
    by_cases h : x = c
    · subst h; simp
    · rw [if_neg h]
      by_cases h2 : c ∈ xs
      · have h3 : ¬ Lib.index xs [c] = -1 := fun e => ih.1 e h2
        rw [if_neg (by simpa using h3)]
        constructor
        · intro e; omega
        · intro e; exact absurd (List.mem_cons_of_mem _ h2) e
      · have h3 := ih.2 h2
        simp [h3, h2, Ne.symm h]
theorem index_parts (c : UInt8) (l : List UInt8) (i : Nat) (h : Lib.index l [c] = i) : c ∉ l.take i ∧ l = l.take i ++ c :: l.drop (i + 1) := by
  induction l generalizing i with
  | nil => rw [index_nil] at h; omega
  | cons x xs ih =>
    rw [index_cons] at h
    split at h
    · rename_i hx
      have : i = 0 := by omega
      subst this; subst hx
      simp
    · rename_i hx
      split at h
      · omega
      · have hg := Lib.index_ge xs [c]
        rename_i hm
        have hm' : Lib.index xs [c] ≠ -1 := by simpa using hm
        obtain ⟨j, rfl⟩ : ∃ j, i = j + 1 := ⟨i - 1, by omega⟩
        obtain ⟨a, b⟩ := ih j (by omega)
        refine ⟨?_, ?_⟩
        · rw [List.take_succ_cons]
          intro hc
          rcases List.mem_cons.1 hc with e | hc
          · exact hx e.symm
          · exact a hc
        · rw [List.take_succ_cons, List.drop_succ_cons, List.cons_append, ← b]
theorem count_parts (c : UInt8) (l : List UInt8) : Lib.count l [c] + 1 = (partsL c l).length := by
  generalize hn : l.length = n
  induction n using Nat.strongRecOn generalizing l with
  | _ n ih =>
    by_cases h : c ∈ l
    · have h3 : ¬ Lib.index l [c] = -1 := fun e => (index_mem c l).1 e h
      have hg := Lib.index_ge l [c]
      obtain ⟨i, hi⟩ : ∃ i : Nat, Lib.index l [c] = i := ⟨(Lib.index l [c]).toNat, by omega⟩
      obtain ⟨h1, h2⟩ := index_parts c l i hi
      rw [Lib.count_hit (by simp) hi]
      have hr := Lib.index_room l [c] (by omega)
      simp at hr
      have := ih (l.drop (i + 1)).length (by simp; omega) (l.drop (i + 1)) rfl
      conv => rhs; rw [h2, partsL_append _ h1]
      simp only [List.length_cons, List.length_nil, Nat.zero_add] at this ⊢
      omega
    · rw [Lib.count_miss ((index_mem c l).2 h), partsL_none h]; rfl
theorem splitK_parts (c : UInt8) (l : List UInt8) : Lib.splitK [c] 0 (Lib.count l [c]) l = partsL c l := by
  generalize hn : l.length = n
  induction n using Nat.strongRecOn generalizing l with
  | _ n ih =>
    by_cases h : c ∈ l
    · have h3 : ¬ Lib.index l [c] = -1 := fun e => (index_mem c l).1 e h
      have hg := Lib.index_ge l [c]
      obtain ⟨i, hi⟩ : ∃ i : Nat, Lib.index l [c] = i := ⟨(Lib.index l [c]).toNat, by omega⟩
      obtain ⟨h1, h2⟩ := index_parts c l i hi
      rw [Lib.count_hit (by simp) hi]
      have hr := Lib.index_room l [c] (by omega)
      simp at hr
      have := ih (l.drop (i + 1)).length (by simp; omega) (l.drop (i + 1)) rfl
      conv => rhs; rw [h2, partsL_append _ h1]
      rw [Nat.add_comm, Lib.splitK, if_neg (by simpa using h3), hi]
      simp only [List.length_cons, List.length_nil, Nat.zero_add, Int.toNat_natCast, Nat.add_zero] at this ⊢
      rw [this]
    · rw [Lib.count_miss ((index_mem c l).2 h), partsL_none h]; rfl
/-- the parts as strings -/
def prt (c : UInt8) (s : ByteArray) : List ByteArray := (partsL c s.data.toList).map fun l => ⟨l.toArray⟩
theorem prt_data (c : UInt8) (s : ByteArray) : (prt c s).map (fun x => x.data.toList) = partsL c s.data.toList := by
  unfold prt; rw [List.map_map]; conv => rhs; rw [← List.map_id (partsL c s.data.toList)]
  exact List.map_congr_left fun _ _ => rfl
theorem mk_data (s : ByteArray) : (⟨s.data.toList.toArray⟩ : ByteArray) = s := rfl
theorem map_mk (xs : List ByteArray) : (xs.map (fun x => x.data.toList)).map (fun l => (⟨l.toArray⟩ : ByteArray)) = xs := by
  rw [List.map_map]; conv => rhs; rw [← List.map_id xs]
  exact List.map_congr_left fun _ _ => rfl
theorem splitB_prt (c : UInt8) (s sep : ByteArray) (h : sep.data.toList = [c]) : Lib.splitB sep 0 (Lib.countB s sep) s = prt c s := by
  rw [← map_mk (Lib.splitB sep 0 (Lib.countB s sep) s), Lib.splitB_data, h]
  show List.map _ (Lib.splitK [c] 0 (Lib.count s.data.toList sep.data.toList) _) = _
  rw [h, splitK_parts]; rfl
theorem countB_prt (c : UInt8) (s sep : ByteArray) (h : sep.data.toList = [c]) : Lib.countB s sep + 1 = (prt c s).length := by
  show Lib.count s.data.toList sep.data.toList + 1 = _
  rw [h, count_parts, prt, List.length_map]
theorem prt_length (c : UInt8) (s : ByteArray) : (prt c s).length = (partsL c s.data.toList).length := by simp [prt]
theorem prt_pos (c : UInt8) (s : ByteArray) : 0 < (prt c s).length := by rw [prt_length]; exact partsL_pos _ _
theorem partsL_length_le (c : UInt8) (l : List UInt8) : (partsL c l).length ≤ l.length + 1 := by
  rw [partsL_length]; have := List.count_le_length (a := c) (l := l); omega
theorem prt_length_le (c : UInt8) (s : ByteArray) : (prt c s).length ≤ s.size + 1 := by
  rw [prt_length]; exact partsL_length_le c s.data.toList
theorem prt_get (c : UInt8) (s : ByteArray) (i : Nat) (h : i < (prt c s).length) : ((prt c s)[i]).data.toList = (partsL c s.data.toList)[i]'(by rw [← prt_length]; exact h) := by
  simp [prt]
theorem ext_data {a b : ByteArray} (h : a.data.toList = b.data.toList) : a = b := by
  rw [← mk_data a, ← mk_data b, h]
end Go.Proofs.YtmjmjloiblbhcaaDoor
