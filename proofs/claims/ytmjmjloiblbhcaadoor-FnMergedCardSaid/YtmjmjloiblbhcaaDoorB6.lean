/- What the reference's tests on globs and paths give; each contract says for which arguments. -/
import Derived.Test.YtmjmjloiblbhcaaDoorB5
import Derived.Test.YtmjmjloiblbhcaaDoorMemB
namespace Go.Proofs.YtmjmjloiblbhcaaDoor
open Go.RowKit
set_option maxRecDepth 100000
set_option maxHeartbeats 400000
theorem seg_cases (b : UInt8) :
    ((97 : Int) ≤ b.toNat ∧ (b.toNat : Int) ≤ 122 ∧ segByte b = true) ∨
    (¬ (97 : Int) ≤ b.toNat ∧ (48 : Int) ≤ b.toNat ∧ (b.toNat : Int) ≤ 57 ∧ segByte b = true) ∨
    (¬ (97 : Int) ≤ b.toNat ∧ ¬ (48 : Int) ≤ b.toNat ∧ ((b.toNat : Int) == 45) = true ∧ segByte b = true) ∨
    (¬ (97 : Int) ≤ b.toNat ∧ ¬ (48 : Int) ≤ b.toNat ∧ ((b.toNat : Int) == 45) = false ∧ segByte b = false) ∨
    (¬ (97 : Int) ≤ b.toNat ∧ (48 : Int) ≤ b.toNat ∧ ¬ (b.toNat : Int) ≤ 57 ∧ ((b.toNat : Int) == 45) = false ∧ segByte b = false) ∨
    ((97 : Int) ≤ b.toNat ∧ ¬ (b.toNat : Int) ≤ 122 ∧ (48 : Int) ≤ b.toNat ∧ ¬ (b.toNat : Int) ≤ 57 ∧ ((b.toNat : Int) == 45) = false ∧ segByte b = false) := by
  have e : segByte b = (nameByte b || decide (b.toNat = 45)) := rfl
  have e2 : nameByte b = ((decide (97 ≤ b.toNat) && decide (b.toNat ≤ 122)) || (decide (48 ≤ b.toNat) && decide (b.toNat ≤ 57))) := rfl
  rw [e, e2]
  generalize b.toNat = n
  have d : ∀ m : Nat, (((n : Int) == (m : Int)) = true ↔ n = m) := fun m => by simp; omega
  have d' : (((n : Int) == 45) = true ↔ n = 45) := d 45
  have d'' : (((n : Int) == 45) = false ↔ ¬ n = 45) := by rw [← Bool.not_eq_true, d']
  rw [d', d'']
  simp only [Bool.or_eq_true, Bool.and_eq_true, decide_eq_true_eq, Bool.or_eq_false_iff, Bool.and_eq_false_iff, decide_eq_false_iff_not]
  omega
theorem l01Segment_c (s : ByteArray) (w : World) :
    Calls Tryd.prog 59 #[.string s] w (Pure (.bool (segB s)) w) := by
  have HS := hide (segB_in s)
  generalize segB s = R at HS ⊢
  cases hin : inB (s.size : Int) 1 16
  · have HQ : Hid (R = false) := by show R = false; rw [HS.out, hin]; rfl
    have HI := hide hin
    clear hin
    go_enter Tryd.func59, Tryd.ntmps59
    go_wp2_with fail
    refine (l01In_c _ _ _ _).mono ?_
    rintro e w' ⟨rfl, rfl⟩
    rw [HI.out]
    go_wp2_with fail
    go_ret
    exact ⟨by rw [HQ.out]; rfl, rfl⟩
  have hsz : s.size ≤ 16 := by
    rw [seg_in] at hin; simp at hin; omega
  have HR : Hid (R = allB segByte s) := by show R = _; rw [HS.out, hin]; rfl
  have HI := hide hin
  clear hin HS
  go_enter Tryd.func59, Tryd.ntmps59
  go_wp2_with fail
  refine (l01In_c _ _ _ _).mono ?_
  rintro e w' ⟨rfl, rfl⟩
  rw [HI.out]
  go_wp2_with fail
  go_loop [3, 4] (fun i _ => ∃ k : Nat, k ≤ s.size ∧ i = .int .i64 k ∧ ∀ j (hj : j < s.size), j < k → segByte s[j] = true) (fun i _ => s.size - (intOf i).toNat)
  case atStart => exact ⟨0, by omega, rfl, fun j _ hj => by omega⟩
  case round =>
    obtain ⟨k, hk, rfl, hne⟩ := hrel
    have HNE := hide hne
    clear hne
    by_cases hlt : k < s.size
    · have HNX : Hid (segByte s[k] = true → ∀ j (hj : j < s.size), j < k + 1 → segByte s[j] = true) := fun h j hj hjk => by
        by_cases e : j = k
        · subst e; exact h
        · exact HNE.out j hj (by omega)
      have HBAD : Hid (segByte s[k] = false → R = false) := fun h => by rw [HR.out]; exact allB_bad hlt h
      have hcs := seg_cases s[k]
      rcases hcs with ⟨h1, h2, hq⟩ | ⟨h1, h2, h3, hq⟩ | ⟨h1, h2, h3, hq⟩ | ⟨h1, h2, h3, hq⟩ | ⟨h1, h2, h3, h4, hq⟩ | ⟨h1, h2, h3, h4, h5, hq⟩
      · have HN := hide (HNX.out hq)
        clear hq
        go_wp2_with fail
        go_round
        case rel => exact ⟨k + 1, by omega, by go_num, HN.out⟩
        case measure => simp [intOf]; omega
      · have HN := hide (HNX.out hq)
        clear hq
        go_wp2_with fail
        go_round
        case rel => exact ⟨k + 1, by omega, by go_num, HN.out⟩
        case measure => simp [intOf]; omega
      · have HN := hide (HNX.out hq)
        clear hq
        go_wp2_with fail
        go_round
        case rel => exact ⟨k + 1, by omega, by go_num, HN.out⟩
        case measure => simp [intOf]; omega
      · have HQ := hide (HBAD.out hq)
        clear hq
        go_wp2_with fail
        go_ret
        exact ⟨by rw [HQ.out]; rfl, rfl⟩
      · have HQ := hide (HBAD.out hq)
        clear hq
        go_wp2_with fail
        go_ret
        exact ⟨by rw [HQ.out]; rfl, rfl⟩
      · have HQ := hide (HBAD.out hq)
        clear hq
        go_wp2_with fail
        go_ret
        exact ⟨by rw [HQ.out]; rfl, rfl⟩
    · have HQ : Hid (R = true) := by show R = true; rw [HR.out]; exact allB_all fun j hj => HNE.out j hj (by omega)
      go_wp2_with fail
      go_ret
      exact ⟨by rw [HQ.out]; rfl, rfl⟩
theorem GlobOk_s (s : ByteArray) (w : World) (hs : s.size < 4294967281) :
    Calls Tryd.prog 30 #[.string s] w (RetV (.bool (globB s)) w) := by
  by_cases h0 : 120 < s.size
  · have HQ := hide (globB_long h0)
    go_enter Tryd.func30, Tryd.ntmps30
    go_wp2_with fail
    go_ret
    exact ⟨by rw [HQ.out]; rfl, Below.refl _ _⟩
  · have HS : Hid (s.size ≤ 120) := by show s.size ≤ 120; omega
    have HOK : Hid (∀ k, k < (prt 47 s).length → okAt (prt 47 s) k = false → globB s = false) := fun k hk h => globB_bad hk h
    have HEND : Hid ((∀ j, j < (prt 47 s).length → okAt (prt 47 s) j = true) → globB s = decide ((prt 47 s).length ≤ 8)) := fun h => globB_end HS.out h
    generalize globB s = R at HOK HEND ⊢
    go_enter Tryd.func30, Tryd.ntmps30
    go_wp2_with fail
    refine (l01Parts_c s 47 w hs).mono ?_
    rintro e w1 ⟨A, c, rfl, _, hown, hb⟩
    have hr := own_rd hown
    clear hown h0 hs
    generalize prt 47 s = ps at hr HOK HEND ⊢
    have hn := hr.bd
    go_wp2_with fail
    go_loop [4] (fun i => ∃ k : Nat, k ≤ ps.length ∧ i = .int .i64 k ∧ ∀ j, j < k → okAt ps j = true) (fun i => ps.length - (intOf i).toNat)
    case atStart => exact ⟨0, by omega, rfl, fun j hj => by omega⟩
    case round =>
      obtain ⟨k, hk, rfl, hne⟩ := hrel
      have HNE := hide hne
      clear hne
      by_cases hlt : k < ps.length
      · obtain ⟨b, off, rfl, hblt, hl, hc⟩ := hr.str hlt
        have HOKA := hide (okAt_get hl)
        have HNX' : Hid (okAt ps k = true → ∀ j, j < k + 1 → okAt ps j = true) := fun h j hj => by
          by_cases e : j = k
          · subst e; exact h
          · exact HNE.out j (by omega)
        have hsg := l01Segment_c ps[k] w1
        cases hseg : segB ps[k]
        · cases hp : isPlus ps[k]
          · have tp := plus_t hp
            cases hst : isStar ps[k]
            · have ts := star_t hst
              have HF : Hid (okAt ps k = false) := by show okAt ps k = false; rw [HOKA.out, hseg, hp, hst]; rfl
              have HI := hide hseg
              clear hseg hp hst
              go_wp2_with fail
              refine hsg.mono ?_
              rintro e w' ⟨rfl, rfl⟩
              rw [HI.out]
              go_wp2_with fail
              go_ret
              exact ⟨by rw [HOK.out k hlt HF.out]; rfl, hb⟩
            · have ts := star_t hst
              by_cases hlast : k + 1 = ps.length
              · have HF : Hid (okAt ps k = true) := by show okAt ps k = true; rw [HOKA.out, hst]; simp [hlast]
                have hla : ((k : Int) == (ps.length : Int) - 1) = true := by simp; omega
                have HI := hide hseg
                clear hseg hp hst
                go_wp2_with fail
                refine hsg.mono ?_
                rintro e w' ⟨rfl, rfl⟩
                rw [HI.out]
                go_wp2_with fail
                go_round
                case rel => exact ⟨k + 1, by omega, by go_num, HNX'.out HF.out⟩
                case measure => simp [intOf]; omega
              · have hla : ((k : Int) == (ps.length : Int) - 1) = false := beq_eq_false_iff_ne.2 (by omega)
                have HF : Hid (okAt ps k = false) := by show okAt ps k = false; rw [HOKA.out, hseg, hp, hst]; simp [hlast]
                have HI := hide hseg
                clear hseg hp hst
                go_wp2_with fail
                refine hsg.mono ?_
                rintro e w' ⟨rfl, rfl⟩
                rw [HI.out]
                go_wp2_with fail
                go_ret
                exact ⟨by rw [HOK.out k hlt HF.out]; rfl, hb⟩
          · have tp := plus_t hp
            have HF : Hid (okAt ps k = true) := by show okAt ps k = true; rw [HOKA.out, hp]; simp
            have HI := hide hseg
            clear hp hseg
            go_wp2_with fail
            refine hsg.mono ?_
            rintro e w' ⟨rfl, rfl⟩
            rw [HI.out]
            go_wp2_with fail
            go_round
            case rel => exact ⟨k + 1, by omega, by go_num, HNX'.out HF.out⟩
            case measure => simp [intOf]; omega
        · have HF : Hid (okAt ps k = true) := by show okAt ps k = true; rw [HOKA.out, hseg]; simp
          have HI := hide hseg
          clear hseg
          go_wp2_with fail
          refine hsg.mono ?_
          rintro e w' ⟨rfl, rfl⟩
          rw [HI.out]
          go_wp2_with fail
          go_round
          case rel => exact ⟨k + 1, by omega, by go_num, HNX'.out HF.out⟩
          case measure => simp [intOf]; omega
      · have HE := hide (HEND.out fun j hj => HNE.out j (by omega))
        go_wp2_with fail
        go_ret
        exact ⟨congrArg (fun v => Ending.returned (.bool v)) (show decide ((ps.length : Int) ≤ 8) = R from by rw [HE.out, Bool.eq_iff_iff]; simp; omega), hb⟩
def plainByte (b : UInt8) : Bool := !(decide (b.toNat = 43) || decide (b.toNat = 42))
theorem plain_cases (b : UInt8) : (((b.toNat : Int) == 43) = true ∧ plainByte b = false) ∨ (((b.toNat : Int) == 43) = false ∧ ((b.toNat : Int) == 42) = true ∧ plainByte b = false) ∨ (((b.toNat : Int) == 43) = false ∧ ((b.toNat : Int) == 42) = false ∧ plainByte b = true) := by
  unfold plainByte
  generalize b.toNat = n
  have d : ∀ m : Nat, (((n : Int) == (m : Int)) = true ↔ n = m) := fun m => by simp; omega
  have d1 : (((n : Int) == 43) = true ↔ n = 43) := d 43
  have d2 : (((n : Int) == 42) = true ↔ n = 42) := d 42
  have d3 : (((n : Int) == 43) = false ↔ ¬ n = 43) := by rw [← Bool.not_eq_true, d1]
  have d4 : (((n : Int) == 42) = false ↔ ¬ n = 42) := by rw [← Bool.not_eq_true, d2]
  rw [d1, d2, d3, d4]
  simp
  omega
theorem PathOk_s (s : ByteArray) (w : World) (hs : s.size < 4294967281) :
    Calls Tryd.prog 25 #[.string s] w (RetV (.bool (pathB s)) w) := by
  have HP : Hid (pathB s = (globB s && allB plainByte s)) := rfl
  generalize pathB s = R at HP ⊢
  cases hgb : globB s
  · have HQ : Hid (R = false) := by show R = false; rw [HP.out, hgb]; rfl
    have HG := hide hgb
    clear hgb
    go_enter Tryd.func25, Tryd.ntmps25
    go_wp2_with fail
    refine (GlobOk_s s w hs).mono ?_
    rintro e w1 ⟨rfl, hb⟩
    rw [HG.out]
    go_wp2_with fail
    go_ret
    exact ⟨by rw [HQ.out]; rfl, hb⟩
  · have HR : Hid (R = allB plainByte s) := by show R = _; rw [HP.out, hgb]; rfl
    have HG := hide hgb
    clear hgb HP
    go_enter Tryd.func25, Tryd.ntmps25
    go_wp2_with fail
    refine (GlobOk_s s w hs).mono ?_
    rintro e w1 ⟨rfl, hb⟩
    rw [HG.out]
    go_wp2_with fail
    go_loop [3] (fun i => ∃ k : Nat, k ≤ s.size ∧ i = .int .i64 k ∧ ∀ j (hj : j < s.size), j < k → plainByte s[j] = true) (fun i => s.size - (intOf i).toNat)
    case atStart => exact ⟨0, by omega, rfl, fun j _ hj => by omega⟩
    case round =>
      obtain ⟨k, hk, rfl, hne⟩ := hrel
      have HNE := hide hne
      clear hne
      by_cases hlt : k < s.size
      · have HNX : Hid (plainByte s[k] = true → ∀ j (hj : j < s.size), j < k + 1 → plainByte s[j] = true) := fun h j hj hjk => by
          by_cases e : j = k
          · subst e; exact h
          · exact HNE.out j hj (by omega)
        have HBAD : Hid (plainByte s[k] = false → R = false) := fun h => by rw [HR.out]; exact allB_bad hlt h
        rcases plain_cases s[k] with ⟨h1, hq⟩ | ⟨h1, h2, hq⟩ | ⟨h1, h2, hq⟩
        · have HQ := hide (HBAD.out hq)
          clear hq
          go_wp2_with fail
          go_ret
          exact ⟨by rw [HQ.out]; rfl, hb⟩
        · have HQ := hide (HBAD.out hq)
          clear hq
          go_wp2_with fail
          go_ret
          exact ⟨by rw [HQ.out]; rfl, hb⟩
        · have HN := hide (HNX.out hq)
          clear hq
          go_wp2_with fail
          go_round
          case rel => exact ⟨k + 1, by omega, by go_num, HN.out⟩
          case measure => simp [intOf]; omega
      · have HQ : Hid (R = true) := by show R = true; rw [HR.out]; exact allB_all fun j hj => HNE.out j hj (by omega)
        go_wp2_with fail
        go_ret
        exact ⟨by rw [HQ.out]; rfl, hb⟩
end Go.Proofs.YtmjmjloiblbhcaaDoor
