/- Reading policies of their texts; there is no program here and no condition. -/
import Derived.Test.YtmjmjloiblbhcaaDoorQT
import Derived.Lib.IndexMore
namespace Go.Proofs.YtmjmjloiblbhcaaDoor
/-- the rule of a line -/
def ruleOf (s : ByteArray) : Option Rl := match prt 32 s with
  | [g, t] => if (parseB t).2 then some (g, ((parseB t).1 : Int)) else none
  | _ => none
theorem ruleOf_two {s g t : ByteArray} (h : prt 32 s = [g, t]) : ruleOf s = if (parseB t).2 then some (g, ((parseB t).1 : Int)) else none := by
  unfold ruleOf; rw [h]
theorem ruleOf_len {s : ByteArray} (h : (prt 32 s).length ≠ 2) : ruleOf s = none := by
  unfold ruleOf
  split
  · rename_i g t e; rw [e] at h; simp at h
  · rfl
def cutG (s : ByteArray) : ByteArray := ⟨(Lib.cut s.data.toList [32]).1.toArray⟩
def cutT (s : ByteArray) : ByteArray := ⟨(Lib.cut s.data.toList [32]).2.1.toArray⟩
theorem parseB_plain {s : ByteArray} (h : (parseB s).2 = true) : ∀ b ∈ s.data.toList, b ≠ 32 ∧ b ≠ 10 := by
  obtain ⟨h1, h2⟩ := parseB_ok h
  intro b hb
  rw [← h1] at hb
  exact capsT_plain _ h2 b hb
theorem ruleOf_cut (s : ByteArray) : ruleOf s = if (parseB (cutT s)).2 then some (cutG s, ((parseB (cutT s)).1 : Int)) else none := by
  by_cases h : (32 : UInt8) ∈ s.data.toList
  · have h3 : ¬ Lib.index s.data.toList [32] = -1 := fun e => (index_mem 32 s.data.toList).1 e h
    have hg := Lib.index_ge s.data.toList [32]
    obtain ⟨i, hi⟩ : ∃ i : Nat, Lib.index s.data.toList [32] = i := ⟨(Lib.index s.data.toList [32]).toNat, by omega⟩
    obtain ⟨h1, h2⟩ := index_parts 32 s.data.toList i hi
    have hc : Lib.cut s.data.toList [32] = (s.data.toList.take i, s.data.toList.drop (i + 1), true) := by
      unfold Lib.cut
      rw [if_pos (by omega), hi]; rfl
    have hp : prt 32 s = cutG s :: prt 32 (cutT s) := by
      unfold prt cutG cutT
      rw [hc]
      conv => lhs; rw [h2, partsL_append _ h1]
      simp
    by_cases h4 : (32 : UInt8) ∈ (cutT s).data.toList
    · rw [ruleOf_len, if_neg]
      · intro hh; exact (parseB_plain hh 32 h4).1 rfl
      · rw [hp, List.length_cons, prt_length, partsL_length]
        have := List.count_pos_iff.2 h4
        omega
    · have h5 : prt 32 (cutT s) = [cutT s] := by
        unfold prt
        rw [partsL_none h4]; rfl
      rw [h5] at hp
      exact ruleOf_two hp
  · have h3 := (index_mem 32 s.data.toList).2 h
    have hc : cutT s = ⟨#[]⟩ := by
      unfold cutT Lib.cut
      rw [if_neg (by omega)]
    rw [ruleOf_len, if_neg]
    · rw [hc]; decide
    · rw [prt_length, partsL_none h]; simp
/-- the lines of a text: all parts but the last -/
def linesT (t : ByteArray) : List ByteArray := (prt 10 t).dropLast
def ruleD (s : ByteArray) : Rl := (ruleOf s).getD (⟨#[]⟩, 0)
def rulesT (t : ByteArray) : List Rl := (linesT t).map ruleD
def linesOk (t : ByteArray) : Bool := (linesT t).all fun s => (ruleOf s).isSome
def parP (nm t : ByteArray) : Bool := linesOk t && (polB nm (rulesT t) && decide (textB (rulesT t) = t))
def parR (nm t : ByteArray) : List Rl := if parP nm t then rulesT t else []
def parN (nm t : ByteArray) : ByteArray := if parP nm t then nm else ⟨#[]⟩
theorem linesT_length (t : ByteArray) : (linesT t).length + 1 = (prt 10 t).length := by
  have := prt_pos 10 t
  simp [linesT]; omega
theorem linesT_get (t : ByteArray) (k : Nat) (h : k < (linesT t).length) : (linesT t)[k] = (prt 10 t)[k]'(by have := linesT_length t; omega) := by
  simp [linesT]
theorem rulesT_length (t : ByteArray) : (rulesT t).length = (linesT t).length := by simp [rulesT]
theorem rulesT_take {t : ByteArray} {k : Nat} (h : k < (linesT t).length) : (rulesT t).take (k + 1) = (rulesT t).take k ++ [ruleD (linesT t)[k]] := by
  rw [List.take_succ_eq_append_getElem (by rw [rulesT_length]; exact h)]
  simp [rulesT]
theorem ruleD_of {s : ByteArray} {r : Rl} (h : ruleOf s = some r) : ruleD s = r := by unfold ruleD; rw [h]; rfl
theorem parP_line {nm t : ByteArray} {k : Nat} (hk : k < (linesT t).length) (h : ruleOf (linesT t)[k] = none) : parP nm t = false := by
  have : linesOk t = false := by
    cases e : linesOk t with
    | false => rfl
    | true =>
      have := List.all_eq_true.1 e _ (List.getElem_mem hk)
      rw [h] at this; cases this
  unfold parP; rw [this]; rfl
theorem parP_long {nm t : ByteArray} (h : 20 < (linesT t).length) : parP nm t = false := by
  unfold parP
  rw [polB_long (by rw [rulesT_length]; exact h)]; simp
theorem parP_size {nm t : ByteArray} (h : 2600 < t.size) : parP nm t = false := by
  cases e : parP nm t with
  | false => rfl
  | true =>
    simp only [parP, Bool.and_eq_true, decide_eq_true_eq] at e
    have h1 := text_length fun r hr => (pol_short e.2.1 hr).1
    have h2 := (polB_true.1 e.2.1).2.1
    have h3 : t.size = (textL (rulesT t)).length := by rw [← textB_size, e.2.2]
    omega
theorem parP_all {nm t : ByteArray} (h : ∀ k (hk : k < (linesT t).length), (ruleOf (linesT t)[k]).isSome = true) : parP nm t = (polB nm (rulesT t) && decide (textB (rulesT t) = t)) := by
  have : linesOk t = true := by
    unfold linesOk
    rw [List.all_eq_true]
    intro x hx
    obtain ⟨k, hk, rfl⟩ := List.getElem_of_mem hx
    exact h k hk
  unfold parP; rw [this]; rfl
theorem parR_no {nm t : ByteArray} (h : parP nm t = false) : parR nm t = [] ∧ parN nm t = ⟨#[]⟩ := by
  unfold parR parN; rw [h]; exact ⟨rfl, rfl⟩
theorem parR_ok {nm t : ByteArray} (h : parP nm t = true) : parR nm t = rulesT t ∧ parN nm t = nm := ⟨if_pos h, if_pos h⟩
/-! the text of a policy read again -/
def lineB (r : Rl) : ByteArray := ⟨(r.1.data.toList ++ 32 :: capsT r.2.toNat).toArray⟩
theorem glob_plain {g : ByteArray} (h : globB g = true) : ∀ b ∈ g.data.toList, b ≠ 32 ∧ b ≠ 10 := by
  intro b hb
  rcases glob_bytes h b hb with rfl | h1 | rfl | rfl
  · decide
  · constructor
    · rintro rfl; simp [segByte, nameByte] at h1
    · rintro rfl; simp [segByte, nameByte] at h1
  · decide
  · decide
theorem line_plain {r : Rl} (hg : globB r.1 = true) (h0 : 0 ≤ r.2) (h1 : r.2 ≤ 63) : (10 : UInt8) ∉ (lineB r).data.toList := by
  intro h
  have hd : (lineB r).data.toList = r.1.data.toList ++ 32 :: capsT r.2.toNat := rfl
  rw [hd] at h
  rcases List.mem_append.1 h with h | h
  · exact (glob_plain hg _ h).2 rfl
  · rcases List.mem_cons.1 h with h | h
    · cases h
    · exact (capsT_plain _ (by omega) _ h).2 rfl
theorem line_rule {r : Rl} (hg : globB r.1 = true) (h0 : 0 ≤ r.2) (h1 : r.2 ≤ 63) : ruleOf (lineB r) = some r := by
  have h32 : (32 : UInt8) ∉ r.1.data.toList := fun h => (glob_plain hg _ h).1 rfl
  have h32c : (32 : UInt8) ∉ capsT r.2.toNat := fun h => (capsT_plain _ (by omega) _ h).1 rfl
  have hp : prt 32 (lineB r) = [r.1, capsB r.2.toNat] := by
    unfold prt lineB
    show List.map _ (partsL 32 (r.1.data.toList ++ 32 :: capsT r.2.toNat)) = _
    rw [partsL_append _ h32, partsL_none h32c]
    rfl
  rw [ruleOf_two hp, parseB_caps (by omega)]
  simp only [if_true]
  have : ((r.2.toNat : Nat) : Int) = r.2 := by omega
  rw [this]
theorem parts_text : ∀ (rs : List Rl), (∀ r ∈ rs, (10 : UInt8) ∉ (lineB r).data.toList) → partsL 10 (textL rs) = rs.map (fun r => (lineB r).data.toList) ++ [[]]
  | [], _ => rfl
  | r :: t, h => by
    have ih := parts_text t fun x hx => h x (List.mem_cons_of_mem _ hx)
    have e : textL (r :: t) = (lineB r).data.toList ++ 10 :: textL t := by
      show (List.map lineL (r :: t)).flatten = _
      simp [lineL, lineB, textL]
    rw [e, partsL_append _ (h r (by simp)), ih]
    simp
theorem parse_text {nm : ByteArray} {rs : List Rl} (hp : polB nm rs = true) : parP nm (textB rs) = true ∧ parR nm (textB rs) = rs ∧ parN nm (textB rs) = nm := by
  have hr : ∀ r ∈ rs, globB r.1 = true ∧ 0 ≤ r.2 ∧ r.2 ≤ 63 := fun r hr => ⟨pol_glob hp hr, pol_caps hp hr⟩
  have hl : linesT (textB rs) = rs.map lineB := by
    have h1 := parts_text rs fun r h => line_plain (hr r h).1 (hr r h).2.1 (hr r h).2.2
    have h2 : prt 10 (textB rs) = rs.map lineB ++ [⟨#[]⟩] := by
      unfold prt
      show List.map _ (partsL 10 (textL rs)) = _
      rw [h1, List.map_append, List.map_map]
      rfl
    unfold linesT
    rw [h2]; simp
  have hrt : rulesT (textB rs) = rs := by
    unfold rulesT
    rw [hl, List.map_map]
    conv => rhs; rw [← List.map_id rs]
    refine List.map_congr_left fun r h => ?_
    exact ruleD_of (line_rule (hr r h).1 (hr r h).2.1 (hr r h).2.2)
  have hok : parP nm (textB rs) = true := by
    have : linesOk (textB rs) = true := by
      unfold linesOk
      rw [hl, List.all_map, List.all_eq_true]
      intro r h
      show (ruleOf (lineB r)).isSome = true
      rw [line_rule (hr r h).1 (hr r h).2.1 (hr r h).2.2]; rfl
    unfold parP
    rw [this, hrt, hp]; simp
  obtain ⟨h1, h2⟩ := parR_ok hok
  exact ⟨hok, h1.trans hrt, h2⟩
end Go.Proofs.YtmjmjloiblbhcaaDoor
