/- Globs and paths: what is one, ranks, cover, fit; plain laws on them; there is no program here and no condition. -/
import Derived.Test.YtmjmjloiblbhcaaDoorQ1
namespace Go.Proofs.YtmjmjloiblbhcaaDoor
def nameByte (b : UInt8) : Bool := (decide (97 ≤ b.toNat) && decide (b.toNat ≤ 122)) || (decide (48 ≤ b.toNat) && decide (b.toNat ≤ 57))
def segByte (b : UInt8) : Bool := nameByte b || decide (b.toNat = 45)
def isPlus (s : ByteArray) : Bool := decide (s.data.toList = [43])
def isStar (s : ByteArray) : Bool := decide (s.data.toList = [42])
def allB (f : UInt8 → Bool) (s : ByteArray) : Bool := s.data.toList.all f
def segB (s : ByteArray) : Bool := (decide (1 ≤ s.size) && decide (s.size ≤ 16)) && allB segByte s
def nameB (s : ByteArray) : Bool := (decide (1 ≤ s.size) && decide (s.size ≤ 12)) && allB nameByte s
def okAt (ps : List ByteArray) (i : Nat) : Bool := match ps[i]? with
  | none => true
  | some p => segB p || (isPlus p || (isStar p && decide (i + 1 = ps.length)))
def globB (s : ByteArray) : Bool := decide (s.size ≤ 120) && ((List.range (prt 47 s).length).all (okAt (prt 47 s)) && decide ((prt 47 s).length ≤ 8))
theorem okAt_get {ps : List ByteArray} {i : Nat} (h : i < ps.length) : okAt ps i = (segB ps[i] || (isPlus ps[i] || (isStar ps[i] && decide (i + 1 = ps.length)))) := by
  unfold okAt; rw [List.getElem?_eq_getElem h]
theorem globB_true {s : ByteArray} : globB s = true ↔ s.size ≤ 120 ∧ (∀ j, j < (prt 47 s).length → okAt (prt 47 s) j = true) ∧ (prt 47 s).length ≤ 8 := by
  simp [globB]
theorem globB_long {s : ByteArray} (h : 120 < s.size) : globB s = false := by
  cases e : globB s with
  | false => rfl
  | true => have := (globB_true.1 e).1; omega
theorem globB_bad {s : ByteArray} {k : Nat} (hk : k < (prt 47 s).length) (h : okAt (prt 47 s) k = false) : globB s = false := by
  cases e : globB s with
  | false => rfl
  | true => have := (globB_true.1 e).2.1 k hk; rw [h] at this; cases this
theorem globB_end {s : ByteArray} (hs : s.size ≤ 120) (h : ∀ j, j < (prt 47 s).length → okAt (prt 47 s) j = true) : globB s = decide ((prt 47 s).length ≤ 8) := by
  have e : globB s = true ↔ (prt 47 s).length ≤ 8 := by rw [globB_true]; exact ⟨fun x => x.2.2, fun x => ⟨hs, h, x⟩⟩
  cases h2 : globB s <;> simp [h2] at e ⊢ <;> omega
theorem okAt_free {ps : List ByteArray} {j : Nat} (hj : j < ps.length) (h : okAt ps j = true) : 1 ≤ ps[j].size ∧ ps[j].size ≤ 16 ∧ ∀ b ∈ ps[j].data.toList, segByte b = true ∨ b = 43 ∨ b = 42 := by
  rw [okAt_get hj] at h
  have hsz : ps[j].size = ps[j].data.toList.length := rfl
  simp only [Bool.or_eq_true, Bool.and_eq_true, segB, isPlus, isStar, allB, decide_eq_true_eq, List.all_eq_true] at h
  rcases h with h | h | h
  · exact ⟨h.1.1, h.1.2, fun b hb => .inl (h.2 b hb)⟩
  · rw [hsz, h]; exact ⟨by simp, by simp, fun b hb => .inr (.inl (by simpa using hb))⟩
  · rw [hsz, h.1]; exact ⟨by simp, by simp, fun b hb => .inr (.inr (by simpa using hb))⟩
theorem mem_join {c b : UInt8} : ∀ {ps : List (List UInt8)}, b ∈ joinL c ps → b = c ∨ ∃ p ∈ ps, b ∈ p
  | [], h => by simp [joinL] at h
  | [p], h => .inr ⟨p, by simp, h⟩
  | p :: q :: r, h => by
    rw [joinL_cons] at h
    rcases List.mem_append.1 h with h | h
    · exact .inr ⟨p, by simp, h⟩
    · rcases List.mem_cons.1 h with h | h
      · exact .inl h
      · rcases mem_join h with h | ⟨p', hp, hb⟩
        · exact .inl h
        · exact .inr ⟨p', List.mem_cons_of_mem _ hp, hb⟩
theorem segByte_le {b : UInt8} (h : segByte b = true) : b.toNat ≤ 122 := by
  simp [segByte, nameByte] at h; omega
theorem glob_bytes {s : ByteArray} (h : globB s = true) : ∀ b ∈ s.data.toList, b = 47 ∨ segByte b = true ∨ b = 43 ∨ b = 42 := by
  intro b hb
  rw [← joinL_parts 47 s.data.toList] at hb
  rcases mem_join hb with h1 | ⟨p, hp, hbp⟩
  · exact .inl h1
  · right
    obtain ⟨i, hi, rfl⟩ := List.getElem_of_mem hp
    have hi' : i < (prt 47 s).length := by rw [prt_length]; exact hi
    have := (okAt_free hi' ((globB_true.1 h).2.1 i hi')).2.2 b (by rw [prt_get]; exact hbp)
    exact this
theorem glob_ascii {s : ByteArray} (h : globB s = true) : ∀ (j : Nat) b, s.data.toList[j]? = some b → b.toNat < 128 := by
  intro j b hj
  rcases glob_bytes h b (List.mem_of_getElem? hj) with rfl | h | rfl | rfl
  · decide
  · have := segByte_le h; omega
  · decide
  · decide
def plainB (s : ByteArray) : Bool := allB (fun b => !(decide (b.toNat = 43) || decide (b.toNat = 42))) s
def pathB (s : ByteArray) : Bool := globB s && plainB s
theorem isPlus_plain {p : ByteArray} (h : isPlus p = true) : 43 ∈ p.data.toList := by
  simp [isPlus] at h; rw [h]; simp
theorem isStar_plain {p : ByteArray} (h : isStar p = true) : 42 ∈ p.data.toList := by
  simp [isStar] at h; rw [h]; simp
theorem mem_parts {c b : UInt8} {l : List UInt8} {p : List UInt8} (hp : p ∈ partsL c l) (hb : b ∈ p) : b ∈ l := by
  rw [← joinL_parts c l]
  have : ∀ (ps : List (List UInt8)), p ∈ ps → b ∈ joinL c ps := by
    intro ps
    induction ps with
    | nil => intro h; simp at h
    | cons x t ih =>
      intro h
      cases t with
      | nil => simp at h; subst h; exact hb
      | cons y r =>
        rw [joinL_cons]
        rcases List.mem_cons.1 h with rfl | h
        · exact List.mem_append_left _ hb
        · exact List.mem_append_right _ (List.mem_cons_of_mem _ (ih h))
  exact this _ hp
theorem path_no_star {s : ByteArray} (h : plainB s = true) {p : ByteArray} (hp : p ∈ prt 47 s) : isStar p = false ∧ isPlus p = false := by
  have hh : ∀ b ∈ p.data.toList, b ≠ 43 ∧ b ≠ 42 := by
    intro b hb
    have hp' : p.data.toList ∈ partsL 47 s.data.toList := by rw [← prt_data]; exact List.mem_map.2 ⟨p, hp, rfl⟩
    have := (List.all_eq_true.1 h) b (mem_parts hp' hb)
    simp at this
    exact ⟨fun e => by subst e; simp at this, fun e => by subst e; simp at this⟩
  constructor
  · cases e : isStar p with
    | false => rfl
    | true => exact absurd rfl (hh 42 (isStar_plain e)).2
  · cases e : isPlus p with
    | false => rfl
    | true => exact absurd rfl (hh 43 (isPlus_plain e)).1
/-! ranks -/
def rankA (ps : List ByteArray) (i : Nat) : Int := match ps[i]? with
  | none => 0
  | some p => if isStar p then 1 else if isPlus p then 2 else 3
theorem rankA_bd (ps : List ByteArray) (i : Nat) : 0 ≤ rankA ps i ∧ rankA ps i ≤ 3 := by
  unfold rankA; split
  · omega
  · split
    · omega
    · split <;> omega
theorem rankA_out {ps : List ByteArray} {i : Nat} (h : ps.length ≤ i) : rankA ps i = 0 := by
  unfold rankA; rw [List.getElem?_eq_none h]
theorem rankA_get {ps : List ByteArray} {i : Nat} (h : i < ps.length) : rankA ps i = if isStar ps[i] then 1 else if isPlus ps[i] then 2 else 3 := by
  unfold rankA; rw [List.getElem?_eq_getElem h]
def cmpF (x y : List ByteArray) : Nat → Nat → Int
  | 0, _ => 0
  | f + 1, i => if rankA x i < rankA y i then -1 else if rankA y i < rankA x i then 1 else cmpF x y f (i + 1)
def cmpA (a b : ByteArray) : Int := cmpF (prt 47 a) (prt 47 b) 8 0
theorem cmpF_lt {x y : List ByteArray} {f i : Nat} (h : rankA x i < rankA y i) : cmpF x y (f + 1) i = -1 := by rw [cmpF, if_pos h]
theorem cmpF_gt {x y : List ByteArray} {f i : Nat} (h : rankA y i < rankA x i) : cmpF x y (f + 1) i = 1 := by rw [cmpF, if_neg (by omega), if_pos h]
theorem cmpF_eq {x y : List ByteArray} {f i : Nat} (h : rankA x i = rankA y i) : cmpF x y (f + 1) i = cmpF x y f (i + 1) := by rw [cmpF, if_neg (by omega), if_neg (by omega)]
theorem cmpF_bd (x y : List ByteArray) : ∀ f i, cmpF x y f i = -1 ∨ cmpF x y f i = 0 ∨ cmpF x y f i = 1
  | 0, _ => .inr (.inl rfl)
  | f + 1, i => by
    unfold cmpF
    split
    · exact .inl rfl
    · split
      · exact .inr (.inr rfl)
      · exact cmpF_bd x y f (i + 1)
theorem cmpF_swap (x y : List ByteArray) : ∀ f i, cmpF y x f i = - cmpF x y f i
  | 0, _ => rfl
  | f + 1, i => by
    unfold cmpF
    by_cases h1 : rankA x i < rankA y i
    · rw [if_neg (by omega), if_pos h1, if_pos h1]; rfl
    · by_cases h2 : rankA y i < rankA x i
      · rw [if_pos h2, if_neg h1, if_pos h2]
      · rw [if_neg h2, if_neg h1, if_neg h1, if_neg h2]; exact cmpF_swap x y f (i + 1)
theorem cmpF_self (x : List ByteArray) : ∀ f i, cmpF x x f i = 0
  | 0, _ => rfl
  | f + 1, i => by rw [cmpF_eq rfl]; exact cmpF_self x f (i + 1)
theorem cmpF_trans (x y z : List ByteArray) : ∀ f i, 0 ≤ cmpF x y f i → 0 ≤ cmpF y z f i → 0 ≤ cmpF x z f i
  | 0, _, _, _ => by simp [cmpF]
  | f + 1, i, h1, h2 => by
    unfold cmpF at *
    split at h1
    · omega
    · split at h1
      · split at h2
        · omega
        · rw [if_neg (by omega), if_pos (by omega)]; omega
      · split at h2
        · omega
        · split at h2
          · rw [if_neg (by omega), if_pos (by omega)]; omega
          · rw [if_neg (by omega), if_neg (by omega)]; exact cmpF_trans x y z f (i + 1) h1 h2
/-! cover and fit -/
def covA : List ByteArray → List ByteArray → Bool
  | [], y => y.isEmpty
  | p :: x, y => isStar p || match y with
    | [] => false
    | q :: y' => (if isPlus p then !isStar q else decide (p = q)) && covA x y'
def fitA : List ByteArray → List ByteArray → Bool
  | [], y => y.isEmpty
  | p :: x, y => isStar p || match y with
    | [] => false
    | q :: y' => (isPlus p || decide (p = q)) && fitA x y'
theorem covA_fit : ∀ (x y : List ByteArray), (∀ q ∈ y, isStar q = false) → covA x y = fitA x y
  | [], _, _ => rfl
  | p :: x, [], _ => rfl
  | p :: x, q :: y, h => by
    simp only [covA, fitA]
    rw [covA_fit x y fun q' hq => h q' (List.mem_cons_of_mem _ hq), h q (by simp)]
    cases isPlus p <;> simp
theorem covA_trans : ∀ (x y z : List ByteArray), covA x y = true → covA y z = true → covA x z = true
  | [], y, z, h1, h2 => by
    simp [covA] at h1; subst h1; exact h2
  | p :: x, [], z, h1, h2 => by
    simp [covA] at h1 ⊢; exact .inl h1
  | p :: x, q :: y, z, h1, h2 => by
    cases hp : isStar p with
    | true => simp [covA, hp]
    | false =>
      simp only [covA, hp, Bool.false_or, Bool.and_eq_true] at h1
      cases z with
      | nil =>
        simp only [covA] at h2
        simp at h2
        exfalso
        obtain ⟨h1, _⟩ := h1
        split at h1
        · simp [h2] at h1
        · simp at h1; subst h1; rw [hp] at h2; cases h2
      | cons r z =>
        simp only [covA, hp, Bool.false_or, Bool.and_eq_true]
        have hq : isStar q = false := by
          obtain ⟨h1, _⟩ := h1
          split at h1
          · simpa using h1
          · simp at h1; subst h1; exact hp
        simp only [covA, hq, Bool.false_or, Bool.and_eq_true] at h2
        refine ⟨?_, covA_trans x y z h1.2 h2.2⟩
        obtain ⟨h1, _⟩ := h1
        obtain ⟨h2, _⟩ := h2
        split
        · rename_i hpp
          rw [if_pos hpp] at h1
          split at h2
          · exact h2
          · rename_i hqp
            simp at h2; subst h2; simp [hq]
        · rename_i hpp
          rw [if_neg hpp] at h1
          simp at h1; subst h1
          rw [if_neg hpp] at h2
          exact h2
/-- at the head of a round: the parts from k on -/
theorem covA_drop_star {x y : List ByteArray} {k : Nat} (hk : k < x.length) (h : isStar x[k] = true) : covA (x.drop k) (y.drop k) = true := by
  rw [List.drop_eq_getElem_cons hk]; simp [covA, h]
theorem covA_drop_out {x y : List ByteArray} {k : Nat} (hk : k < x.length) (h : isStar x[k] = false) (hy : y.length ≤ k) : covA (x.drop k) (y.drop k) = false := by
  rw [List.drop_eq_getElem_cons hk, List.drop_eq_nil_of_le hy]; simp [covA, h]
theorem covA_drop_plus {x y : List ByteArray} {k : Nat} (hk : k < x.length) (h : isStar x[k] = false) (hy : k < y.length) (hp : isPlus x[k] = true) : covA (x.drop k) (y.drop k) = (!isStar y[k] && covA (x.drop (k + 1)) (y.drop (k + 1))) := by
  rw [List.drop_eq_getElem_cons hk, List.drop_eq_getElem_cons hy]; simp [covA, h, hp]
theorem covA_drop_eq {x y : List ByteArray} {k : Nat} (hk : k < x.length) (h : isStar x[k] = false) (hy : k < y.length) (hp : isPlus x[k] = false) : covA (x.drop k) (y.drop k) = (decide (x[k] = y[k]) && covA (x.drop (k + 1)) (y.drop (k + 1))) := by
  rw [List.drop_eq_getElem_cons hk, List.drop_eq_getElem_cons hy]; simp [covA, h, hp]
theorem covA_drop_end {x y : List ByteArray} {k : Nat} (hk : k = x.length) (hy : k ≤ y.length) : covA (x.drop k) (y.drop k) = decide (x.length = y.length) := by
  subst hk
  rw [List.drop_length]
  simp only [covA]
  rw [Bool.eq_iff_iff]; simp; omega
def coversB (a b : ByteArray) : Bool := globB a && covA (prt 47 a) (prt 47 b)
end Go.Proofs.YtmjmjloiblbhcaaDoor
