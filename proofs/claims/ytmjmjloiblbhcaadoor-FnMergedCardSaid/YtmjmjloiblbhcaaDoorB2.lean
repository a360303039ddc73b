/- What the program's tests on globs and paths give; each contract says for which arguments. -/
import Derived.Test.YtmjmjloiblbhcaaDoorB1
namespace Go.Proofs.YtmjmjloiblbhcaaDoor
open Go.RowKit
set_option maxRecDepth 100000
set_option maxHeartbeats 400000
theorem toL (s : ByteArray) : s.toList = s.data.toList := by rw [Lib.toList_data]
theorem star_t {p : ByteArray} {v : Bool} (h : isStar p = v) : (p.toList == [42]) = v := by
  subst h; rw [toL, Bool.eq_iff_iff]; simp [isStar]
theorem plus_t {p : ByteArray} {v : Bool} (h : isPlus p = v) : (p.toList == [43]) = v := by
  subst h; rw [toL, Bool.eq_iff_iff]; simp [isPlus]
theorem seg_in (p : ByteArray) : inB (p.size : Int) 1 16 = (decide (1 ≤ p.size) && decide (p.size ≤ 16)) := by
  unfold inB
  have h1 : decide ((1 : Int) ≤ (p.size : Int)) = decide (1 ≤ p.size) := by rw [Bool.eq_iff_iff]; simp; omega
  have h2 : decide ((p.size : Int) ≤ 16) = decide (p.size ≤ 16) := by rw [Bool.eq_iff_iff]; simp; omega
  rw [h1, h2]
theorem segB_in (p : ByteArray) : segB p = (inB (p.size : Int) 1 16 && allB segByte p) := by rw [seg_in]; rfl
theorem star_seg {p : ByteArray} (h : isStar p = true) : inB (p.size : Int) 1 16 = true ∧ allB segByte p = false := by
  have h1 : p.data.toList = [42] := by simpa [isStar] using h
  have h2 : p.size = 1 := by have : p.size = p.data.toList.length := rfl
                             rw [this, h1]; rfl
  refine ⟨by rw [h2]; decide, ?_⟩
  unfold allB
  rw [h1]; decide
theorem isGlob_c (s : ByteArray) (w : World) (hg : GM w) (hs : s.size < 4294967281) :
    Calls Tryd.prog 60 #[.string s] w (RetV (.bool (globB s)) w) := by
  by_cases h0 : 120 < s.size
  · have HQ := hide (globB_long h0)
    go_enter Tryd.func60, Tryd.ntmps60
    go_wp2_with fail
    go_ret
    exact ⟨by rw [HQ.out]; rfl, Below.refl _ _⟩
  · go_enter Tryd.func60, Tryd.ntmps60
    go_wp2_with fail
    refine (split_c s w hg hs).mono ?_
    rintro e w1 ⟨A, c, rfl, _, hown, hb⟩
    have hr := own_rd hown
    have HS : Hid (s.size ≤ 120) := by show s.size ≤ 120; omega
    clear hown h0 hs hg
    have HOK : Hid (∀ k, k < (prt 47 s).length → okAt (prt 47 s) k = false → globB s = false) := fun k hk h => globB_bad hk h
    have HEND : Hid ((∀ j, j < (prt 47 s).length → okAt (prt 47 s) j = true) → globB s = decide ((prt 47 s).length ≤ 8)) := fun h => globB_end HS.out h
    generalize prt 47 s = ps at hr HOK HEND ⊢
    have hn := hr.bd
    go_wp2_with fail
    go_loop [4, 5, 13] (fun _ _ i => ∃ k : Nat, k ≤ ps.length ∧ i = .int .i64 k ∧ ∀ j, j < k → okAt ps j = true) (fun _ _ i => ps.length - (intOf i).toNat)
    case atStart => exact ⟨0, by omega, rfl, fun j hj => by omega⟩
    case round =>
      obtain ⟨k, hk, rfl, hne⟩ := hrel
      have HNE := hide hne
      clear hne
      by_cases hlt : k < ps.length
      · obtain ⟨b, off, rfl, hblt, hl, hc⟩ := hr.str hlt
        have HOKA := hide (okAt_get hl)
        have hp9 : ps[k].size ≤ 9223372036854775807 ∨ True := .inr trivial
        have HSZ : Hid (ps[k].size ≤ 9223372036854775807 ∨ inB (ps[k].size : Int) 1 16 = false) := by
          by_cases hh : ps[k].size ≤ 9223372036854775807
          · exact .inl hh
          · right; rw [seg_in]; simp; omega
        have HNX : okAt ps k = true → ∀ j, j < k + 1 → okAt ps j = true := fun h j hj => by
          by_cases e : j = k
          · subst e; exact h
          · exact HNE.out j (by omega)
        have HNX' := hide HNX
        clear HNX hp9
        cases hp : isPlus ps[k]
        · have tp := plus_t hp
          cases hst : isStar ps[k]
          · have ts := star_t hst
            cases hin : inB (ps[k].size : Int) 1 16
            · have HF : Hid (okAt ps k = false) := by show okAt ps k = false; rw [HOKA.out, segB_in, hin, hp, hst]; rfl
              have HI := hide hin
              clear hin hp hst
              go_wp2_with fail
              refine (within_c _ _ _ _).mono ?_
              rintro e w' ⟨rfl, rfl⟩
              rw [HI.out]
              go_wp2_with fail
              go_ret
              exact ⟨by rw [HOK.out k hlt HF.out]; rfl, hb⟩
            · have hsz : ps[k].size ≤ 9223372036854775807 := by
                rcases HSZ.out with h | h
                · exact h
                · rw [hin] at h; cases h
              have hO := onlySeg_c ps[k] hsz w1
              cases hall : allB segByte ps[k]
              · have HF : Hid (okAt ps k = false) := by show okAt ps k = false; rw [HOKA.out, segB_in, hin, hp, hst, hall]; rfl
                have HI := hide hin
                have HA := hide hall
                clear hin hp hst hall
                go_wp2_with fail
                refine (within_c _ _ _ _).mono ?_
                rintro e w' ⟨rfl, rfl⟩
                rw [HI.out]
                go_wp2_with fail
                refine hO.mono ?_
                rintro e w' ⟨rfl, rfl⟩
                rw [HA.out]
                go_wp2_with fail
                go_ret
                exact ⟨by rw [HOK.out k hlt HF.out]; rfl, hb⟩
              · have HF : Hid (okAt ps k = true) := by show okAt ps k = true; rw [HOKA.out, segB_in, hin, hp, hst, hall]; rfl
                have HI := hide hin
                have HA := hide hall
                clear hin hp hst hall
                go_wp2_with fail
                refine (within_c _ _ _ _).mono ?_
                rintro e w' ⟨rfl, rfl⟩
                rw [HI.out]
                go_wp2_with fail
                refine hO.mono ?_
                rintro e w' ⟨rfl, rfl⟩
                rw [HA.out]
                go_wp2_with fail
                go_round
                case rel => exact ⟨k + 1, by omega, by go_num, HNX'.out HF.out⟩
                case measure => simp [intOf]; omega
          · have ts := star_t hst
            by_cases hlast : k + 1 = ps.length
            · have HF : Hid (okAt ps k = true) := by show okAt ps k = true; rw [HOKA.out, hst]; simp [hlast]
              have hla : decide ((k : Int) = (ps.length : Int) - 1) = true := decide_eq_true (by omega)
              clear hp hst
              go_wp2_with fail
              go_round
              case rel => exact ⟨k + 1, by omega, by go_num, HNX'.out HF.out⟩
              case measure => simp [intOf]; omega
            · have hla : decide ((k : Int) = (ps.length : Int) - 1) = false := decide_eq_false (by omega)
              obtain ⟨hin, hall⟩ := star_seg hst
              have hsz : ps[k].size ≤ 9223372036854775807 := by
                rcases HSZ.out with h | h
                · exact h
                · rw [hin] at h; cases h
              have hO := onlySeg_c ps[k] hsz w1
              have HF : Hid (okAt ps k = false) := by show okAt ps k = false; rw [HOKA.out, segB_in, hin, hp, hst, hall]; simp [hlast]
              have HI := hide hin
              have HA := hide hall
              clear hin hp hst hall
              go_wp2_with fail
              refine (within_c _ _ _ _).mono ?_
              rintro e w' ⟨rfl, rfl⟩
              rw [HI.out]
              go_wp2_with fail
              refine hO.mono ?_
              rintro e w' ⟨rfl, rfl⟩
              rw [HA.out]
              go_wp2_with fail
              go_ret
              exact ⟨by rw [HOK.out k hlt HF.out]; rfl, hb⟩
        · have tp := plus_t hp
          have HF : Hid (okAt ps k = true) := by show okAt ps k = true; rw [HOKA.out, hp]; simp
          clear hp
          go_wp2_with fail
          go_round
          case rel => exact ⟨k + 1, by omega, by go_num, HNX'.out HF.out⟩
          case measure => simp [intOf]; omega
      · have HE := hide (HEND.out fun j hj => HNE.out j (by omega))
        go_wp2_with fail
        go_ret
        exact ⟨congrArg (fun v => Ending.returned (.bool v)) (show decide ((ps.length : Int) ≤ 8) = globB s from by rw [HE.out, Bool.eq_iff_iff]; simp; omega), hb⟩
theorem any_chars : ∀ l : List UInt8, decide (0 ≤ Lib.indexAny l [43, 42]) = !(l.all fun b => !(decide (b.toNat = 43) || decide (b.toNat = 42)))
  | [] => rfl
  | b :: l => by
    have ih := any_chars l
    have hg := Lib.indexAny_ge [43, 42] l
    have hb : [(43 : UInt8), 42].contains b = (decide (b.toNat = 43) || decide (b.toNat = 42)) := by
      rw [Bool.eq_iff_iff]; simp [← UInt8.toNat_inj]
    unfold Lib.indexAny
    rw [hb, List.all_cons]
    cases hq : (decide (b.toNat = 43) || decide (b.toNat = 42))
    · simp only [Bool.false_eq_true, if_false, Bool.not_false, Bool.true_and]
      rw [← ih]
      split
      · rename_i h; simp at h; rw [h]
      · rename_i h; simp at h; rw [Bool.eq_iff_iff, decide_eq_true_eq, decide_eq_true_eq]; omega
    · simp
theorem plus_chars (s : ByteArray) : Lib.containsAny s.data.toList [43, 42] = !plainB s := any_chars s.data.toList
theorem isPath_c (s : ByteArray) (w : World) (hg : GM w) (hs : s.size < 4294967281) :
    Calls Tryd.prog 55 #[.string s] w (RetV (.bool (pathB s)) w) := by
  cases hgb : globB s
  · have HQ : Hid (pathB s = false) := by show pathB s = false; unfold pathB; rw [hgb]; rfl
    have HG := hide hgb
    clear hgb
    go_enter Tryd.func55, Tryd.ntmps55
    go_wp2_with fail
    refine (isGlob_c s w hg hs).mono ?_
    rintro e w1 ⟨rfl, hb⟩
    rw [HG.out]
    go_wp2_with fail
    go_ret
    exact ⟨by rw [HQ.out]; rfl, hb⟩
  · have HQ : Hid (pathB s = plainB s) := by show pathB s = plainB s; unfold pathB; rw [hgb]; rfl
    have HC := hide (plus_chars s)
    have hasc := hide (glob_ascii hgb)
    have HG := hide hgb
    clear hgb
    go_enter Tryd.func55, Tryd.ntmps55
    go_wp2_with fail
    refine (isGlob_c s w hg hs).mono ?_
    rintro e w1 ⟨rfl, hb⟩
    rw [HG.out]
    go_wp2_with fail
    refine (Tryd.strings_ContainsAny_laid s { data := #[43, 42] } w1 hs (by decide) hasc.out (fun j b hj => by
      have := List.mem_of_getElem? hj
      simp at this
      rcases this with rfl | rfl <;> decide)).mono ?_
    rintro e w2 ⟨rfl, hb2⟩
    have hb3 := then_ hb hb2 hb.size
    rw [show Lib.containsAny s.data.toList ({ data := #[43, 42] } : ByteArray).data.toList = !plainB s from HC.out]
    go_wp2_with fail
    go_ret
    exact ⟨by rw [HQ.out]; simp, hb3⟩
theorem rankAt_c (A : Option Addr) (c : Nat) (ps : List ByteArray) (k : Nat) (w : World) (hi : Nat) (hr : Rd w hi 1 A ps.length (sC ps)) :
    Calls Tryd.prog 96 #[.slice A ps.length c, .int .i64 k] w (Pure (.int .i64 (rankA ps k)) w) := by
  have hn := hr.bd
  by_cases hlt : k < ps.length
  · obtain ⟨b, off, rfl, hblt, hl, hc⟩ := hr.str hlt
    have HR := hide (rankA_get hl)
    cases hst : isStar ps[k]
    · have ts := star_t hst
      cases hp : isPlus ps[k]
      · have tp := plus_t hp
        have HQ : Hid (rankA ps k = 3) := by show rankA ps k = 3; rw [HR.out, hst, hp]; rfl
        clear hst hp
        go_enter Tryd.func96, Tryd.ntmps96
        go_wp2_with fail
        go_ret
        exact ⟨by rw [HQ.out]; rfl, rfl⟩
      · have tp := plus_t hp
        have HQ : Hid (rankA ps k = 2) := by show rankA ps k = 2; rw [HR.out, hst, hp]; rfl
        clear hst hp
        go_enter Tryd.func96, Tryd.ntmps96
        go_wp2_with fail
        go_ret
        exact ⟨by rw [HQ.out]; rfl, rfl⟩
    · have ts := star_t hst
      have HQ : Hid (rankA ps k = 1) := by show rankA ps k = 1; rw [HR.out, hst]; rfl
      clear hst
      go_enter Tryd.func96, Tryd.ntmps96
      go_wp2_with fail
      go_ret
      exact ⟨by rw [HQ.out]; rfl, rfl⟩
  · have HQ : Hid (rankA ps k = 0) := rankA_out (by omega)
    go_enter Tryd.func96, Tryd.ntmps96
    go_wp2_with fail
    go_ret
    exact ⟨by rw [HQ.out]; rfl, rfl⟩
end Go.Proofs.YtmjmjloiblbhcaaDoor
