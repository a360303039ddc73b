/- What the reference's under and join give; each contract says for which arguments. -/
import Derived.Test.YtlhhdpjnoainiaaDoorB8
namespace Go.Proofs.YtlhhdpjnoainiaaDoor
open Go.RowKit
set_option maxRecDepth 100000
set_option maxHeartbeats 400000
theorem under_same {p q : ByteArray} (h : q = p) : underL p.data.toList q.data.toList = true := underL_iff.2 (.inl (by rw [h]))
theorem under_no {p q : ByteArray} (h : q ≠ p) (hl : ¬ p.size < q.size) : underL p.data.toList q.data.toList = false := by
  cases e : underL p.data.toList q.data.toList with
  | false => rfl
  | true =>
    rcases underL_iff.1 e with h1 | ⟨h1, _⟩
    · exact absurd (ext_data h1) h
    · rw [size_l, size_l] at h1; omega
theorem under_lt {p q : ByteArray} (h : q ≠ p) (hl : p.size < q.size) : underL p.data.toList q.data.toList = (decide (q.extract 0 p.size = p) && decide (q[p.size] = 47)) := by
  rw [Bool.eq_iff_iff, underL_iff]
  simp only [Bool.and_eq_true, decide_eq_true_eq]
  have hb := byte_l q p.size hl
  have hl2 : p.size < q.data.toList.length := by rw [size_l]; exact hl
  have he : (q.extract 0 p.size).data.toList = q.data.toList.take p.size := by rw [ext_l]; rfl
  constructor
  · rintro (h1 | ⟨_, h2, h3⟩)
    · exact absurd (ext_data h1) h
    · rw [size_l] at h2 h3
      refine ⟨ext_data (by rw [he, h2]), ?_⟩
      rw [hb]
      rw [List.getElem?_eq_getElem hl2] at h3
      exact Option.some.inj h3
  · rintro ⟨h2, h3⟩
    right
    rw [size_l, size_l]
    refine ⟨hl, by rw [← he, h2], ?_⟩
    rw [List.getElem?_eq_getElem hl2, ← hb, h3]
theorem UnderPath_s (p q : ByteArray) (w : World) (hp : p.size < 4294967281) (hq : q.size < 4294967281) :
    Calls Tryd.prog 35 #[.string p, .string q] w (RetV (.bool (underB p q)) w) := by
  have HL : Hid (underB p q = (pathB p && (pathB q && underL p.data.toList q.data.toList))) := rfl
  generalize underB p q = R at HL ⊢
  cases h1 : pathB p
  · have HQ : Hid (R = false) := by show R = false; rw [HL.out, h1]; rfl
    have HG := hide h1
    clear h1
    go_enter Tryd.func35, Tryd.ntmps35
    go_wp2_with fail
    refine (PathOk_s p w hp).mono ?_
    rintro e w1 ⟨rfl, hb⟩
    rw [HG.out]
    go_wp2_with fail
    go_ret
    exact ⟨by rw [HQ.out]; rfl, hb⟩
  cases h2 : pathB q
  · have HQ : Hid (R = false) := by show R = false; rw [HL.out, h1, h2]; rfl
    have HG := hide h1
    have HG2 := hide h2
    clear h1 h2
    go_enter Tryd.func35, Tryd.ntmps35
    go_wp2_with fail
    refine (PathOk_s p w hp).mono ?_
    rintro e w1 ⟨rfl, hb⟩
    rw [HG.out]
    go_wp2_with fail
    refine (PathOk_s q w1 hq).mono ?_
    rintro e w2 ⟨rfl, hb2⟩
    have hB := then_ hb hb2 hb.size
    rw [HG2.out]
    go_wp2_with fail
    go_ret
    exact ⟨by rw [HQ.out]; rfl, hB⟩
  have HR : Hid (R = underL p.data.toList q.data.toList) := by show R = _; rw [HL.out, h1, h2]; rfl
  have HG := hide h1
  have HG2 := hide h2
  clear h1 h2 HL
  by_cases hpq : q.size < p.size
  · have HQ : Hid (R = false) := by show R = false; rw [HR.out]; exact under_no (fun e => by rw [e] at hpq; omega) (by omega)
    go_enter Tryd.func35, Tryd.ntmps35
    go_wp2_with fail
    refine (PathOk_s p w hp).mono ?_
    rintro e w1 ⟨rfl, hb⟩
    rw [HG.out]
    go_wp2_with fail
    refine (PathOk_s q w1 hq).mono ?_
    rintro e w2 ⟨rfl, hb2⟩
    have hB := then_ hb hb2 hb.size
    rw [HG2.out]
    go_wp2_with fail
    go_ret
    exact ⟨by rw [HQ.out]; rfl, hB⟩
  cases he : decide (q = p)
  · have te := eq_t he
    have hne : q ≠ p := of_decide_eq_false he
    clear he
    by_cases hlt : p.size < q.size
    · have HU : Hid (R = (decide (q.extract 0 p.size = p) && decide (q[p.size] = 47))) := by show R = _; rw [HR.out, under_lt hne hlt]
      clear hne
      cases hx : decide (q.extract 0 p.size = p)
      · have tx := eq_t hx
        have HQ : Hid (R = false) := by show R = false; rw [HU.out, hx]; rfl
        clear hx
        go_enter Tryd.func35, Tryd.ntmps35
        go_wp2_with fail
        refine (PathOk_s p w hp).mono ?_
        rintro e w1 ⟨rfl, hb⟩
        rw [HG.out]
        go_wp2_with fail
        refine (PathOk_s q w1 hq).mono ?_
        rintro e w2 ⟨rfl, hb2⟩
        have hB := then_ hb hb2 hb.size
        rw [HG2.out]
        go_wp2_with fail
        go_ret
        exact ⟨by rw [HQ.out]; rfl, hB⟩
      · have tx := eq_t hx
        have HQ : Hid (R = ((q[p.size].toNat : Int) == 47)) := by
          show R = _
          rw [HU.out, hx, Bool.true_and, Bool.eq_iff_iff]; simp [← UInt8.toNat_inj]; omega
        clear hx
        go_enter Tryd.func35, Tryd.ntmps35
        go_wp2_with fail
        refine (PathOk_s p w hp).mono ?_
        rintro e w1 ⟨rfl, hb⟩
        rw [HG.out]
        go_wp2_with fail
        refine (PathOk_s q w1 hq).mono ?_
        rintro e w2 ⟨rfl, hb2⟩
        have hB := then_ hb hb2 hb.size
        rw [HG2.out]
        go_wp2_with fail
        go_ret
        exact ⟨by rw [HQ.out]; rfl, hB⟩
    · have HQ : Hid (R = false) := by show R = false; rw [HR.out]; exact under_no hne hlt
      clear hne
      go_enter Tryd.func35, Tryd.ntmps35
      go_wp2_with fail
      refine (PathOk_s p w hp).mono ?_
      rintro e w1 ⟨rfl, hb⟩
      rw [HG.out]
      go_wp2_with fail
      refine (PathOk_s q w1 hq).mono ?_
      rintro e w2 ⟨rfl, hb2⟩
      have hB := then_ hb hb2 hb.size
      rw [HG2.out]
      go_wp2_with fail
      go_ret
      exact ⟨by rw [HQ.out]; rfl, hB⟩
  · have te := eq_t he
    have HQ : Hid (R = true) := by show R = true; rw [HR.out]; exact under_same (of_decide_eq_true he)
    clear he
    go_enter Tryd.func35, Tryd.ntmps35
    go_wp2_with fail
    refine (PathOk_s p w hp).mono ?_
    rintro e w1 ⟨rfl, hb⟩
    rw [HG.out]
    go_wp2_with fail
    refine (PathOk_s q w1 hq).mono ?_
    rintro e w2 ⟨rfl, hb2⟩
    have hB := then_ hb hb2 hb.size
    rw [HG2.out]
    go_wp2_with fail
    go_ret
    exact ⟨by rw [HQ.out]; rfl, hB⟩
/-! join -/
theorem joinOk_spec (l : List ByteArray) : joinOk l = (segsOk l && globB (joinB l)) := join_spec l
theorem segsOk_bad {l : List ByteArray} {k : Nat} (hk : k < l.length) (h : (decide (l[k].size ≤ 16) && noSlash l[k]) = false) : joinOk l = false := by
  rw [joinOk_spec]
  have : segsOk l = false := by
    cases e : segsOk l with
    | false => rfl
    | true =>
      simp only [segsOk, Bool.and_eq_true, List.all_eq_true] at e
      have := e.2 l[k] (List.getElem_mem hk)
      rw [Bool.and_eq_false_iff] at h
      rcases h with h | h
      · rw [h] at this; cases this.1
      · rw [h] at this; cases this.2
  rw [this]; rfl
theorem segsOk_long {l : List ByteArray} (h : 8 < l.length) : joinOk l = false := by
  rw [joinOk_spec]
  have : segsOk l = false := by unfold segsOk; rw [decide_eq_false (by omega)]; rfl
  rw [this]; rfl
theorem segsOk_all {l : List ByteArray} (h : l.length ≤ 8) (ha : ∀ k (hk : k < l.length), (decide (l[k].size ≤ 16) && noSlash l[k]) = true) : joinOk l = globB (joinB l) := by
  rw [joinOk_spec]
  have : segsOk l = true := by
    simp only [segsOk, Bool.and_eq_true, List.all_eq_true, decide_eq_true_eq]
    refine ⟨h, fun x hx => ?_⟩
    obtain ⟨k, hk, rfl⟩ := List.getElem_of_mem hx
    have := ha k hk
    simp only [Bool.and_eq_true, decide_eq_true_eq] at this
    exact this
  rw [this]; rfl
theorem joinB_snoc (l : List ByteArray) (x : ByteArray) (h : l ≠ []) : joinB (l ++ [x]) = (joinB l ++ ⟨#[47]⟩) ++ x := by
  apply ext_data
  rw [joinB_data, List.map_append]
  simp only [List.map_cons, List.map_nil]
  rw [joinL_snoc 47 _ (by simpa using h)]
  simp [joinB_data]
theorem joinB_one (x : ByteArray) : joinB [x] = x := ext_data rfl
theorem joinB_take_zero (l : List ByteArray) : joinB (l.take 0) = ⟨#[]⟩ := rfl
theorem joinB_take {l : List ByteArray} {k : Nat} (hk : k < l.length) (h0 : 0 < k) : joinB (l.take (k + 1)) = (joinB (l.take k) ++ ⟨#[47]⟩) ++ l[k] := by
  rw [List.take_succ_eq_append_getElem hk, joinB_snoc]
  intro e
  have := congrArg List.length e
  rw [List.length_take, List.length_nil] at this
  omega
theorem joinB_bd {l : List ByteArray} {k : Nat} (hk : k < l.length) (hz : l[k].size ≤ 16) (h : (joinB (l.take k)).size ≤ 17 * k) : (joinB (l.take (k + 1))).size ≤ 17 * (k + 1) := by
  by_cases h0 : 0 < k
  · rw [joinB_take hk h0, ByteArray.size_append, ByteArray.size_append]
    have : (⟨#[47]⟩ : ByteArray).size = 1 := rfl
    omega
  · have : k = 0 := by omega
    subst this
    have : l.take 1 = [l[0]] := by rw [List.take_succ_eq_append_getElem hk]; simp
    rw [this, joinB_one]; omega
theorem JoinPath_s (A : Option Addr) (c : Nat) (l : List ByteArray) (w : World) (hi : Nat) (hr : Rd w hi 1 A l.length (sC l)) :
    Calls Tryd.prog 25 #[.slice A l.length c] w (RetV (.tuple #[.string (joinA l), .bool (joinOk l)]) w) := by
  have HA : Hid (joinA l = if joinOk l then joinB l else ⟨#[]⟩) := rfl
  have HBAD : Hid (∀ k (hk : k < l.length), (decide (l[k].size ≤ 16) && noSlash l[k]) = false → joinOk l = false) := fun k hk => segsOk_bad hk
  have HLONG : Hid (8 < l.length → joinOk l = false) := segsOk_long
  have HALL : Hid (l.length ≤ 8 → (∀ k (hk : k < l.length), (decide (l[k].size ≤ 16) && noSlash l[k]) = true) → joinOk l = globB (joinB l)) := segsOk_all
  generalize joinOk l = ok at HA HBAD HLONG HALL ⊢
  generalize joinA l = R at HA ⊢
  have hn := hr.bd
  have HOUT : Hid (ok = false → R = ⟨#[]⟩) := fun h => by rw [HA.out, h]; rfl
  by_cases h8 : 8 < l.length
  · have HQ := hide (HLONG.out h8)
    have HR := hide (HOUT.out HQ.out)
    go_enter Tryd.func25, Tryd.ntmps25
    go_wp2_with fail
    refine bodyPost_ret (v := .tuple #[.string ⟨#[]⟩, .bool false]) (by simp [results, Tryd.results25, go_sem]) rfl ?_
    rw [HQ.out, HR.out]
    exact ⟨rfl, Below.refl _ _⟩
  go_enter Tryd.func25, Tryd.ntmps25
  go_wp2_with fail
  go_loop [4, 5, 6] (fun o i _ => ∃ k : Nat, k ≤ l.length ∧ i = .int .i64 k ∧ o = .string (joinB (l.take k)) ∧ (joinB (l.take k)).size ≤ 17 * k ∧ ∀ j (hj : j < l.length), j < k → (decide (l[j].size ≤ 16) && noSlash l[j]) = true) (fun _ i _ => l.length - (intOf i).toNat)
  case atStart => exact ⟨0, by omega, rfl, rfl, by rw [joinB_take_zero]; exact Nat.le_refl _, fun j _ hj => by omega⟩
  case round =>
    obtain ⟨k, hk, rfl, rfl, hsz, hall⟩ := hrel
    have HAL := hide hall
    clear hall
    by_cases hlt : k < l.length
    · obtain ⟨b, off, rfl, hblt, hl, hc⟩ := hr.str hlt
      by_cases h16 : 16 < l[k].size
      · have HQ := hide (HBAD.out k hlt (by rw [decide_eq_false (by omega)]; rfl))
        have HR := hide (HOUT.out HQ.out)
        generalize joinB (l.take k) = J at hsz ⊢
        go_wp2_with fail
        refine bodyPost_ret (v := .tuple #[.string ⟨#[]⟩, .bool false]) (by simp [results, Tryd.results25, go_sem]) rfl ?_
        rw [HQ.out, HR.out]
        exact ⟨rfl, Below.refl _ _⟩
      have HBD := hide (joinB_bd hlt (by omega) hsz)
      have HJ0 : Hid (k = 0 → joinB (l.take (k + 1)) = joinB (l.take k) ++ l[k]) := fun e => by
        subst e
        have : l.take 1 = [l[0]] := by rw [List.take_succ_eq_append_getElem hlt]; simp
        rw [this, joinB_one, joinB_take_zero]
        exact ext_data (by simp)
      have HJ1 : Hid (0 < k → joinB (l.take (k + 1)) = (joinB (l.take k) ++ ⟨#[47]⟩) ++ l[k]) := fun h0 => joinB_take hlt h0
      have HNX : Hid (noSlash l[k] = true → ∀ j (hj : j < l.length), j < k + 1 → (decide (l[j].size ≤ 16) && noSlash l[j]) = true) := fun h j hj hjk => by
        by_cases e : j = k
        · subst e; rw [h, decide_eq_true (by omega)]; rfl
        · exact HAL.out j hj (by omega)
      have HBK : Hid (noSlash l[k] = false → ok = false) := fun h => HBAD.out k hlt (by rw [h]; simp)
      generalize joinB (l.take k) = J at hsz HJ0 HJ1 ⊢
      go_wp2_with fail
      go_loop [6] (fun t => ∃ m : Nat, m ≤ l[k].size ∧ t = .int .i64 m ∧ ∀ j (hj : j < l[k].size), j < m → (decide (l[k][j].toNat = 47)) = false) (fun t => l[k].size - (intOf t).toNat)
      case atStart => exact ⟨0, by omega, rfl, fun j _ hj => by omega⟩
      case round =>
        obtain ⟨m, hm, rfl, hne⟩ := hrel
        have HNE := hide hne
        clear hne
        by_cases hmt : m < l[k].size
        · cases hq : decide (l[k][m].toNat = 47)
          · have tq : ((l[k][m].toNat : Int) == 47) = false := beq_eq_false_iff_ne.2 (by have := of_decide_eq_false hq; omega)
            have HN : Hid (∀ j (hj : j < l[k].size), j < m + 1 → (decide (l[k][j].toNat = 47)) = false) := fun j hj hjm => by
              by_cases e : j = m
              · subst e; exact hq
              · exact HNE.out j hj (by omega)
            clear hq
            go_wp2_with fail
            go_round
            case rel => exact ⟨m + 1, by omega, by go_num, HN.out⟩
            case measure => simp [intOf]; omega
          · have tq : ((l[k][m].toNat : Int) == 47) = true := by have := of_decide_eq_true hq; simp; omega
            have HQ := hide (HBK.out (allB_bad (f := fun b => !decide (b.toNat = 47)) hmt (by rw [hq]; rfl)))
            have HR := hide (HOUT.out HQ.out)
            clear hq
            go_wp2_with fail
            refine bodyPost_ret (v := .tuple #[.string ⟨#[]⟩, .bool false]) (by simp [results, Tryd.results25, go_sem]) rfl ?_
            rw [HQ.out, HR.out]
            exact ⟨rfl, Below.refl _ _⟩
        · have HN := hide (HNX.out (allB_all fun j hj => by rw [HNE.out j hj (by omega)]; rfl))
          by_cases h0 : 0 < k
          · have HJ := hide (HJ1.out h0)
            go_wp2_with fail
            go_round
            case rel => exact ⟨k + 1, by omega, by go_num, by rw [HJ.out], HBD.out, HN.out⟩
            case measure => simp [intOf]; omega
          · have HJ := hide (HJ0.out (by omega))
            go_wp2_with fail
            go_round
            case rel => exact ⟨k + 1, by omega, by go_num, by rw [HJ.out], HBD.out, HN.out⟩
            case measure => simp [intOf]; omega
    · have HE : Hid (ok = globB (joinB l)) := HALL.out (by omega) fun j hj => HAL.out j hj (by omega)
      have HT : Hid (joinB (l.take k) = joinB l) := by show joinB (l.take k) = joinB l; rw [List.take_of_length_le (by omega)]
      rw [HT.out] at hsz ⊢
      cases hgb : globB (joinB l)
      · have HG := hide hgb
        have HQ : Hid (ok = false) := by show ok = false; rw [HE.out, hgb]
        have HR := hide (HOUT.out HQ.out)
        clear hgb
        generalize joinB l = J at hsz HG ⊢
        go_wp2_with fail
        refine (GlobOk_s J w (by omega)).mono ?_
        rintro e w1 ⟨rfl, hb⟩
        rw [HG.out]
        go_wp2_with fail
        refine bodyPost_ret (v := .tuple #[.string ⟨#[]⟩, .bool false]) (by simp [results, Tryd.results25, go_sem]) rfl ?_
        rw [HQ.out, HR.out]
        exact ⟨rfl, hb⟩
      · have HG := hide hgb
        have HQ : Hid (ok = true) := by show ok = true; rw [HE.out, hgb]
        have HR : Hid (R = joinB l) := by show R = _; rw [HA.out, HQ.out]; rfl
        clear hgb
        generalize joinB l = J at hsz HG HR ⊢
        go_wp2_with fail
        refine (GlobOk_s J w (by omega)).mono ?_
        rintro e w1 ⟨rfl, hb⟩
        rw [HG.out]
        go_wp2_with fail
        refine bodyPost_ret (v := .tuple #[.string J, .bool true]) (by simp [results, Tryd.results25, go_sem]) rfl ?_
        rw [HQ.out, HR.out]
        exact ⟨rfl, hb⟩
end Go.Proofs.YtlhhdpjnoainiaaDoor
