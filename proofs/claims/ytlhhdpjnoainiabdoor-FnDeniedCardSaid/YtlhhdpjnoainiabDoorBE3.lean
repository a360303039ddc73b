/- Drawn policies; each contract says for which arguments. -/
import Derived.Test.YtlhhdpjnoainiabDoorBE2
import Derived.Test.YtlhhdpjnoainiabDoorC9
namespace Go.Proofs.YtlhhdpjnoainiabDoor
open Go.RowKit
set_option maxRecDepth 100000
set_option maxHeartbeats 1000000
/-- cells that read as policies; their rules lie below hi -/
def PlC (w : World) (hi : Nat) (cs : List Value) (ps : List Pl) : Prop :=
  cs.length = ps.length * 2 ∧ ∀ j (hj : j < ps.length), ∃ Aj cj, cs[j * 2]? = some (.string ps[j].1) ∧ cs[j * 2 + 1]? = some (.slice Aj ps[j].2.length cj) ∧ Rd w hi 2 Aj ps[j].2.length (rC ps[j].2)
theorem PlC.nil (w : World) (hi : Nat) : PlC w hi [] [] := ⟨rfl, fun j hj => by simp at hj⟩
theorem PlC.keep {w w' : World} {hi : Nat} {cs : List Value} {ps : List Pl} (h : PlC w hi cs ps) (hk : ∀ b, b < hi → w'.heap[b]? = w.heap[b]?) : PlC w' hi cs ps :=
  ⟨h.1, fun j hj => by obtain ⟨Aj, cj, h1, h2, h3⟩ := h.2 j hj; exact ⟨Aj, cj, h1, h2, h3.keep hk⟩⟩
theorem PlC.mono {w : World} {hi hi' : Nat} {cs : List Value} {ps : List Pl} (h : PlC w hi cs ps) (hh : hi ≤ hi') : PlC w hi' cs ps :=
  ⟨h.1, fun j hj => by obtain ⟨Aj, cj, h1, h2, h3⟩ := h.2 j hj; exact ⟨Aj, cj, h1, h2, h3.mono hh⟩⟩
theorem PlC.below {w w' : World} {hi b : Nat} {cs : List Value} {ps : List Pl} (h : PlC w hi cs ps) (hb : Below b w w') (hh : hi ≤ b) : PlC w' hi cs ps := h.keep fun k hk => hb.block k (by omega)
theorem PlC.snoc {w : World} {hi : Nat} {cs : List Value} {ps : List Pl} (h : PlC w hi cs ps) (nm : ByteArray) (A : Option Addr) (c : Nat) (rs : List Rl) (hr : Rd w hi 2 A rs.length (rC rs)) : PlC w hi (cs ++ [.string nm, .slice A rs.length c]) (ps ++ [(nm, rs)]) := by
  have hl := h.1
  refine ⟨by simp; omega, fun j hj => ?_⟩
  by_cases e : j < ps.length
  · obtain ⟨Aj, cj, h1, h2, h3⟩ := h.2 j e
    rw [List.getElem_append_left e]
    exact ⟨Aj, cj, by rw [List.getElem?_append_left (by omega)]; exact h1, by rw [List.getElem?_append_left (by omega)]; exact h2, h3⟩
  · have e2 : j = ps.length := by simp at hj; omega
    subst e2
    rw [List.getElem_append_right (Nat.le_refl _)]
    refine ⟨A, c, ?_, ?_, ?_⟩
    · rw [List.getElem?_append_right (by omega), show ps.length * 2 - cs.length = 0 from by omega]; simp
    · rw [List.getElem?_append_right (by omega), show ps.length * 2 + 1 - cs.length = 1 from by omega]; simp
    · simpa using hr
theorem PlC.plr {w : World} {base n c : Nat} {A : Option Addr} {cs : List Value} {ps : List Pl} (h : PlC w w.heap.size cs ps) (ho : w.ownsRow base 38 2 (.slice A n c) n cs) (hn : n ≤ 1048576) (hl : ps.length = n) : PlR w w.heap.size A n ps := by
  refine ⟨hl, by omega, fun hpos => ?_⟩
  obtain ⟨g, rfl, hg⟩ := own_some ho hpos
  refine ⟨g, 0, rfl, (own_base ho).2, fun j hj => ?_⟩
  obtain ⟨Aj, cj, h1, h2, h3⟩ := h.2 j hj
  refine ⟨Aj, cj, ?_, ?_, h3⟩
  · rw [Nat.zero_add, ho.cellAt (j * 2) (by omega)]; exact h1
  · rw [Nat.zero_add, ho.cellAt (j * 2 + 1) (by omega)]; exact h2
/-- policies in rows of the call's own -/
def PlO (w : World) (base : Nat) (A : Option Addr) (n c : Nat) (ps : List Pl) : Prop :=
  ps.length = n ∧ ∃ cs : List Value, w.ownsRow base 38 2 (.slice A n c) n cs ∧ ∀ j (hj : j < ps.length), ∃ Aj cj, cs[j * 2]? = some (.string ps[j].1) ∧ cs[j * 2 + 1]? = some (.slice Aj ps[j].2.length cj) ∧ w.ownsRow base 43 2 (.slice Aj ps[j].2.length cj) ps[j].2.length (rC ps[j].2)
theorem PlO.tch {w w' : World} {base n c B : Nat} {A : Option Addr} {ps : List Pl} (h : PlO w base A n c ps) (k : Tch B (B + 1) w w') (hB : B < base) : PlO w' base A n c ps := by
  obtain ⟨h1, cs, h2, h3⟩ := h
  refine ⟨h1, cs, own_tch h2 k hB, fun j hj => ?_⟩
  obtain ⟨Aj, cj, e1, e2, e3⟩ := h3 j hj
  exact ⟨Aj, cj, e1, e2, own_tch e3 k hB⟩
theorem PlO.below {w w' : World} {base n c : Nat} {A : Option Addr} {ps : List Pl} (h : PlO w base A n c ps) (k : Below w.heap.size w w') : PlO w' base A n c ps := by
  obtain ⟨h1, cs, h2, h3⟩ := h
  refine ⟨h1, cs, own_below h2 k, fun j hj => ?_⟩
  obtain ⟨Aj, cj, e1, e2, e3⟩ := h3 j hj
  exact ⟨Aj, cj, e1, e2, own_below e3 k⟩
theorem PlO.plr {w : World} {base n c : Nat} {A : Option Addr} {ps : List Pl} (h : PlO w base A n c ps) (hn : n ≤ 1048576) : PlR w w.heap.size A n ps := by
  obtain ⟨h1, cs, h2, h3⟩ := h
  refine PlC.plr (cs := cs) ⟨by have := h2.1; omega, fun j hj => ?_⟩ h2 hn h1
  obtain ⟨Aj, cj, e1, e2, e3⟩ := h3 j hj
  exact ⟨Aj, cj, e1, e2, own_rd e3⟩
theorem own_type' {w : World} {base e size n c : Nat} {a : Addr} {xs : List Value} (h : w.ownsRow base e size (.slice (some a) n c) n xs) : ∃ cur, w.heap[a.block]? = some (.cells cur e (0, 0)) ∧ base ≤ a.block := by
  rcases h.2 with ⟨h0, _⟩ | ⟨g, cap, cur, hv, hb, hg, _⟩
  · cases h0
  · injection hv with hv
    injection hv with hv
    subst hv
    exact ⟨cur, hg, hb⟩
theorem own_kept {w w' : World} {base e e' size n c n' c' : Nat} {A A' : Option Addr} {xs xs' : List Value} (h : w.ownsRow base e size (.slice A n c) n xs) {b' s' : Nat} (ho : w.ownsRow b' e' s' (.slice A' n' c') n' xs') (hne : e ≠ e') (hg : w.grownBy w' (Value.slice A' n' c').ownBlock) : w'.ownsRow base e size (.slice A n c) n xs := by
  refine h.kept hg ?_
  cases A with
  | none => left; rfl
  | some a =>
    right
    obtain ⟨cur, hcur, _⟩ := own_type' h
    cases A' with
    | none => simp [Value.ownBlock]
    | some a' =>
      obtain ⟨cur', hcur', _⟩ := own_type' ho
      simp only [Value.ownBlock, ne_eq, Option.some.injEq]
      intro hab
      rw [hab, hcur'] at hcur
      injection hcur with hcur
      injection hcur with _ h4
      exact hne h4.symm
theorem PlO.push {w w' : World} {base n c c' : Nat} {A A' : Option Addr} {ps : List Pl} {cs : List Value} {nm : ByteArray} {A5 : Option Addr} {c5 : Nat} {rs : List Rl}
    (h1 : ps.length = n) (h2 : w.ownsRow base 38 2 (.slice A n c) n cs) (h3 : ∀ j (hj : j < ps.length), ∃ Aj cj, cs[j * 2]? = some (.string ps[j].1) ∧ cs[j * 2 + 1]? = some (.slice Aj ps[j].2.length cj) ∧ w.ownsRow base 43 2 (.slice Aj ps[j].2.length cj) ps[j].2.length (rC ps[j].2))
    (hr : w.ownsRow base 43 2 (.slice A5 rs.length c5) rs.length (rC rs)) (hg : w.grownBy w' (Value.slice A n c).ownBlock) (hn : w'.ownsRow base 38 2 (.slice A' (n + 1) c') (n + 1) (cs ++ [.string nm, .slice A5 rs.length c5])) : PlO w' base A' (n + 1) c' (ps ++ [(nm, rs)]) := by
  have hl := h2.1
  refine ⟨by simp; omega, _, hn, fun j hj => ?_⟩
  by_cases e : j < ps.length
  · obtain ⟨Aj, cj, e1, e2, e3⟩ := h3 j e
    rw [List.getElem_append_left e]
    exact ⟨Aj, cj, by rw [List.getElem?_append_left (by omega)]; exact e1, by rw [List.getElem?_append_left (by omega)]; exact e2, own_kept e3 h2 (by decide) hg⟩
  · have e2 : j = ps.length := by simp at hj; omega
    subst e2
    rw [List.getElem_append_right (Nat.le_refl _)]
    refine ⟨A5, c5, ?_, ?_, ?_⟩
    · rw [List.getElem?_append_right (by omega), show ps.length * 2 - cs.length = 0 from by omega]; simp
    · rw [List.getElem?_append_right (by omega), show ps.length * 2 + 1 - cs.length = 1 from by omega]; simp
    · simpa using own_kept hr h2 (by decide) hg
/-- of drawn policies: names, rules and globs are short -/
def PlS (ps : List Pl) : Prop := ∀ x ∈ ps, x.1.size ≤ 13 ∧ x.2.length ≤ 64 ∧ ∀ r ∈ x.2, r.1.size ≤ 200
/-- policies in new memory, the cursor gone on -/
def CurPls (base B : Nat) (w : World) (en : Ending) (w' : World) : Prop :=
  ∃ (A : Option Addr) (n c : Nat) (ps : List Pl), n ≤ 11 ∧ n ≤ c ∧ PlS ps ∧ en = .returned (.slice A n c) ∧ PlO w' w.heap.size A n c ps ∧ Cur w' base B ∧ Tch B (B + 1) w w'
theorem l02DrawPolicies_c (Ac : Option Addr) (nc cc : Nat) (base B : Nat) (w : World) (hc : Cur w base B) (hnc : nc ≤ 1048576) : Calls Tryd.prog 76 #[.pointer (some ⟨B, 0, none⟩), .slice Ac nc cc] w (CurPls base B w) := by
  have hBW := hc.lt
  have CP := hide fun (n : Int) (W : World) (h : Cur W base B) (hn : n ≤ 64) => l02DrawPolicy_c n base B W h hn
  have CS := hide fun (W : World) => l01Size_c Ac nc cc 8 W hnc (by omega)
  have M := hide (World.ownsRow_made (e := 38) (size := 2) (base := w.heap.size) w #[] 0 (Nat.le_refl _) (by omega) rfl)
  go_enter Tryd.func76, Tryd.ntmps76
  go_wp2_with fail
  refine (l01Below_c 4 base B _ (hc.below (w' := w.alloc (.cells #[] 38)) (by repeat (first | with_reducible exact Below.refl _ _ | with_reducible assumption | refine Below.alloc ?_ (by first | omega | (simp; done) | (simp; omega)) _ | refine Below.setCell ?_ (by first | omega | (simp; done) | (simp; omega)) _ | refine Below.drew ?_ | refine below_drewN ?_ _ | exact Below.refl _ _ | assumption))) (by omega)).mono ?_
  rintro e w2 ⟨r2, ⟨r20, _, r21⟩, rfl, hc2, hm2⟩
  have HM2 := hide (show Tch B (B + 1) w w2 from (Tch.of_below (by repeat (first | with_reducible exact Below.refl _ _ | with_reducible assumption | refine Below.alloc ?_ (by first | omega | (simp; done) | (simp; omega)) _ | refine Below.setCell ?_ (by first | omega | (simp; done) | (simp; omega)) _ | refine Below.drew ?_ | refine below_drewN ?_ _ | exact Below.refl _ _ | assumption))).trans hm2)
  have HO2 := hide (own_tch M.out hm2 (by omega))
  have HC2 := hide hc2
  clear hc2 hm2 hc
  go_wp2_with fail
  refine (l01Once_c 30 base B _ HC2.out (by omega)).mono ?_
  rintro e w3 ⟨b3, rfl, hc3, hm3⟩
  have HM3 := hide (HM2.out.trans hm3)
  have HO3 := hide (own_tch HO2.out hm3 (by omega))
  have HC3 := hide hc3
  clear hc3 hm3
  cases b3
  case false =>
    obtain ⟨N, rfl⟩ := Int.eq_ofNat_of_zero_le r20
    have hN : N ≤ 11 := by omega
    rename_i hx
    clear hx r20 r21
    go_wp2_with fail
    go_loopw [5, 7] (fun ov iv wr => ∃ (k : Nat) (ps : List Pl) (A3 : Option Addr) (c3 : Nat), k ≤ N ∧ iv = .int .i64 (k : Int) ∧ ov = .slice A3 k c3 ∧ k ≤ c3 ∧ PlS ps ∧ PlO wr w.heap.size A3 k c3 ps ∧ Cur wr base B ∧ Tch B (B + 1) w wr) (fun _ iv _ => N - (intOf iv).toNat)
    case atStart => exact ⟨0, [], _, _, by omega, rfl, rfl, Nat.le_refl _, by simp [PlS], ⟨rfl, [], HO3.out, by simp⟩, HC3.out, HM3.out⟩
    case round =>
      obtain ⟨k, ps, A3, c3, hk, rfl, rfl, hkc, hps, hpo, hcr, htr⟩ := hrel
      by_cases hlt : k < N
      · have HPS := hide hps
        have HPO := hide hpo
        have HCR := hide hcr
        have HTR := hide htr
        have hsr := htr.size
        clear hps hpo hcr htr
        go_wp2_with fail
        refine (CS.out _).mono ?_
        rintro e w5 ⟨m, hm, rfl, rfl⟩
        have C5 := hide (l01Below_c (m : Int) base B _ HCR.out (by omega))
        go_wp2_with fail
        refine C5.out.mono ?_
        rintro e w6 ⟨r6, ⟨r60, r62, r61⟩, rfl, hc6, hm6⟩
        have HC6 := hide hc6
        have HM6 := hide (HTR.out.trans hm6)
        have HP6 := hide (HPO.out.tch hm6 hBW)
        have h64 := hide (show r6 ≤ 64 by omega)
        clear hc6 hm6 r60 r61 r62 C5
        go_wp2_with fail
        refine (CP.out r6 _ HC6.out h64.out).mono ?_
        rintro e w7 ⟨nm, A7, k7, c7, rs, hnm, hk7, hkc7, hrs, rfl, ho7, hc7, hm7⟩
        have HM7 := hide (HM6.out.trans hm7)
        obtain ⟨hpl, cs, hcs, hj7⟩ := HP6.out.tch hm7 hBW
        have HCS := hide hcs
        have HJ7 := hide hj7
        have HC7 := hide hc7
        have HR7 := hide hrs
        have hlr : rs.length = k7 := by have := ho7.1; rw [rC_length] at this; omega
        subst hlr
        have HO7 := hide (own_mono (base' := w.heap.size) ho7 HM6.out.size)
        have hs7 := HM7.out.size
        clear hcs hj7 hc7 hm7 ho7 hrs HC6 HP6
        go_wp2_with (at_builtin; refine wpList_push w7 rfl (.tmp 21) (.tmp 28) 51 rfl w.heap.size 38 _ 2 40 Tryd.underlying51 info_p rfl (by omega) A3 k c3 _ [.string nm, .slice A7 rs.length c7] rfl HCS.out rfl rfl (by simp [Value.oneCell']) (by omega) (by omega) hs7 ?_; intro A4 c4 w9 hc9 hown9 hg9 _)
        have HPL : Hid (PlO w9 w.heap.size A4 (k + 1) c4 (ps ++ [(nm, rs)])) := PlO.push hpl HCS.out HJ7.out HO7.out hg9 hown9
        have HB9 := hide (grown_below HCS.out hg9 hs7)
        have HPS9 : Hid (PlS (ps ++ [(nm, rs)])) := by
          intro x hx
          rcases List.mem_append.1 hx with hx | hx
          · exact HPS.out x hx
          · rw [List.mem_singleton.1 hx]; exact ⟨hnm, hk7, HR7.out⟩
        clear hown9 hg9 hpl
        first | exact ⟨⟨k + 1, ps ++ [(nm, rs)], A4, c4, by omega, by go_num, rfl, hc9, HPS9.out, HPL.out, HC7.out.below' HB9.out (by omega), HM7.out.grow HB9.out (Nat.le_refl _)⟩, by simp [intOf]; omega⟩ | (go_wp2_with fail; exact ⟨⟨k + 1, ps ++ [(nm, rs)], A4, c4, by omega, by go_num, rfl, hc9, HPS9.out, HPL.out, HC7.out.below' HB9.out (by omega), HM7.out.grow HB9.out (Nat.le_refl _)⟩, by simp [intOf]; omega⟩)
      · have HPO := hide hpo
        have HPS := hide hps
        clear hpo hps
        go_wp2_with fail
        go_ret
        exact ⟨A3, k, c3, ps, by omega, hkc, HPS.out, rfl, HPO.out, hcr, htr⟩
  case true =>
    go_wp2_with fail
    refine (l01Below_c 2 base B _ HC3.out (by omega)).mono ?_
    rintro e w4 ⟨r4, ⟨r40, _, r41⟩, rfl, hc4, hm4⟩
    have HM3 := hide (HM3.out.trans hm4)
    have HO3 := hide (own_tch HO3.out hm4 (by omega))
    have HC3 := hide hc4
    clear hc4 hm4
    have hcase : r4 = 0 ∨ r4 = 1 := by omega
    rename_i hx
    clear hx r40 r41 r20 r21
    rcases hcase with rfl | rfl
    · go_wp2_with fail
      go_loopw [5, 7] (fun ov iv wr => ∃ (k : Nat) (ps : List Pl) (A3 : Option Addr) (c3 : Nat), k ≤ 10 ∧ iv = .int .i64 (k : Int) ∧ ov = .slice A3 k c3 ∧ k ≤ c3 ∧ PlS ps ∧ PlO wr w.heap.size A3 k c3 ps ∧ Cur wr base B ∧ Tch B (B + 1) w wr) (fun _ iv _ => 10 - (intOf iv).toNat)
      case atStart => exact ⟨0, [], _, _, by omega, rfl, rfl, Nat.le_refl _, by simp [PlS], ⟨rfl, [], HO3.out, by simp⟩, HC3.out, HM3.out⟩
      case round =>
        obtain ⟨k, ps, A3, c3, hk, rfl, rfl, hkc, hps, hpo, hcr, htr⟩ := hrel
        by_cases hlt : k < 10
        · have HPS := hide hps
          have HPO := hide hpo
          have HCR := hide hcr
          have HTR := hide htr
          have hsr := htr.size
          clear hps hpo hcr htr
          go_wp2_with fail
          refine (CS.out _).mono ?_
          rintro e w5 ⟨m, hm, rfl, rfl⟩
          have C5 := hide (l01Below_c (m : Int) base B _ HCR.out (by omega))
          go_wp2_with fail
          refine C5.out.mono ?_
          rintro e w6 ⟨r6, ⟨r60, r62, r61⟩, rfl, hc6, hm6⟩
          have HC6 := hide hc6
          have HM6 := hide (HTR.out.trans hm6)
          have HP6 := hide (HPO.out.tch hm6 hBW)
          have h64 := hide (show r6 ≤ 64 by omega)
          clear hc6 hm6 r60 r61 r62 C5
          go_wp2_with fail
          refine (CP.out r6 _ HC6.out h64.out).mono ?_
          rintro e w7 ⟨nm, A7, k7, c7, rs, hnm, hk7, hkc7, hrs, rfl, ho7, hc7, hm7⟩
          have HM7 := hide (HM6.out.trans hm7)
          obtain ⟨hpl, cs, hcs, hj7⟩ := HP6.out.tch hm7 hBW
          have HCS := hide hcs
          have HJ7 := hide hj7
          have HC7 := hide hc7
          have HR7 := hide hrs
          have hlr : rs.length = k7 := by have := ho7.1; rw [rC_length] at this; omega
          subst hlr
          have HO7 := hide (own_mono (base' := w.heap.size) ho7 HM6.out.size)
          have hs7 := HM7.out.size
          clear hcs hj7 hc7 hm7 ho7 hrs HC6 HP6
          go_wp2_with (at_builtin; refine wpList_push w7 rfl (.tmp 21) (.tmp 28) 51 rfl w.heap.size 38 _ 2 40 Tryd.underlying51 info_p rfl (by omega) A3 k c3 _ [.string nm, .slice A7 rs.length c7] rfl HCS.out rfl rfl (by simp [Value.oneCell']) (by omega) (by omega) hs7 ?_; intro A4 c4 w9 hc9 hown9 hg9 _)
          have HPL : Hid (PlO w9 w.heap.size A4 (k + 1) c4 (ps ++ [(nm, rs)])) := PlO.push hpl HCS.out HJ7.out HO7.out hg9 hown9
          have HB9 := hide (grown_below HCS.out hg9 hs7)
          have HPS9 : Hid (PlS (ps ++ [(nm, rs)])) := by
            intro x hx
            rcases List.mem_append.1 hx with hx | hx
            · exact HPS.out x hx
            · rw [List.mem_singleton.1 hx]; exact ⟨hnm, hk7, HR7.out⟩
          clear hown9 hg9 hpl
          first | exact ⟨⟨k + 1, ps ++ [(nm, rs)], A4, c4, by omega, by go_num, rfl, hc9, HPS9.out, HPL.out, HC7.out.below' HB9.out (by omega), HM7.out.grow HB9.out (Nat.le_refl _)⟩, by simp [intOf]; omega⟩ | (go_wp2_with fail; exact ⟨⟨k + 1, ps ++ [(nm, rs)], A4, c4, by omega, by go_num, rfl, hc9, HPS9.out, HPL.out, HC7.out.below' HB9.out (by omega), HM7.out.grow HB9.out (Nat.le_refl _)⟩, by simp [intOf]; omega⟩)
        · have HPO := hide hpo
          have HPS := hide hps
          clear hpo hps
          go_wp2_with fail
          go_ret
          exact ⟨A3, k, c3, ps, by omega, hkc, HPS.out, rfl, HPO.out, hcr, htr⟩
    · go_wp2_with fail
      go_loopw [5, 7] (fun ov iv wr => ∃ (k : Nat) (ps : List Pl) (A3 : Option Addr) (c3 : Nat), k ≤ 11 ∧ iv = .int .i64 (k : Int) ∧ ov = .slice A3 k c3 ∧ k ≤ c3 ∧ PlS ps ∧ PlO wr w.heap.size A3 k c3 ps ∧ Cur wr base B ∧ Tch B (B + 1) w wr) (fun _ iv _ => 11 - (intOf iv).toNat)
      case atStart => exact ⟨0, [], _, _, by omega, rfl, rfl, Nat.le_refl _, by simp [PlS], ⟨rfl, [], HO3.out, by simp⟩, HC3.out, HM3.out⟩
      case round =>
        obtain ⟨k, ps, A3, c3, hk, rfl, rfl, hkc, hps, hpo, hcr, htr⟩ := hrel
        by_cases hlt : k < 11
        · have HPS := hide hps
          have HPO := hide hpo
          have HCR := hide hcr
          have HTR := hide htr
          have hsr := htr.size
          clear hps hpo hcr htr
          go_wp2_with fail
          refine (CS.out _).mono ?_
          rintro e w5 ⟨m, hm, rfl, rfl⟩
          have C5 := hide (l01Below_c (m : Int) base B _ HCR.out (by omega))
          go_wp2_with fail
          refine C5.out.mono ?_
          rintro e w6 ⟨r6, ⟨r60, r62, r61⟩, rfl, hc6, hm6⟩
          have HC6 := hide hc6
          have HM6 := hide (HTR.out.trans hm6)
          have HP6 := hide (HPO.out.tch hm6 hBW)
          have h64 := hide (show r6 ≤ 64 by omega)
          clear hc6 hm6 r60 r61 r62 C5
          go_wp2_with fail
          refine (CP.out r6 _ HC6.out h64.out).mono ?_
          rintro e w7 ⟨nm, A7, k7, c7, rs, hnm, hk7, hkc7, hrs, rfl, ho7, hc7, hm7⟩
          have HM7 := hide (HM6.out.trans hm7)
          obtain ⟨hpl, cs, hcs, hj7⟩ := HP6.out.tch hm7 hBW
          have HCS := hide hcs
          have HJ7 := hide hj7
          have HC7 := hide hc7
          have HR7 := hide hrs
          have hlr : rs.length = k7 := by have := ho7.1; rw [rC_length] at this; omega
          subst hlr
          have HO7 := hide (own_mono (base' := w.heap.size) ho7 HM6.out.size)
          have hs7 := HM7.out.size
          clear hcs hj7 hc7 hm7 ho7 hrs HC6 HP6
          go_wp2_with (at_builtin; refine wpList_push w7 rfl (.tmp 21) (.tmp 28) 51 rfl w.heap.size 38 _ 2 40 Tryd.underlying51 info_p rfl (by omega) A3 k c3 _ [.string nm, .slice A7 rs.length c7] rfl HCS.out rfl rfl (by simp [Value.oneCell']) (by omega) (by omega) hs7 ?_; intro A4 c4 w9 hc9 hown9 hg9 _)
          have HPL : Hid (PlO w9 w.heap.size A4 (k + 1) c4 (ps ++ [(nm, rs)])) := PlO.push hpl HCS.out HJ7.out HO7.out hg9 hown9
          have HB9 := hide (grown_below HCS.out hg9 hs7)
          have HPS9 : Hid (PlS (ps ++ [(nm, rs)])) := by
            intro x hx
            rcases List.mem_append.1 hx with hx | hx
            · exact HPS.out x hx
            · rw [List.mem_singleton.1 hx]; exact ⟨hnm, hk7, HR7.out⟩
          clear hown9 hg9 hpl
          first | exact ⟨⟨k + 1, ps ++ [(nm, rs)], A4, c4, by omega, by go_num, rfl, hc9, HPS9.out, HPL.out, HC7.out.below' HB9.out (by omega), HM7.out.grow HB9.out (Nat.le_refl _)⟩, by simp [intOf]; omega⟩ | (go_wp2_with fail; exact ⟨⟨k + 1, ps ++ [(nm, rs)], A4, c4, by omega, by go_num, rfl, hc9, HPS9.out, HPL.out, HC7.out.below' HB9.out (by omega), HM7.out.grow HB9.out (Nat.le_refl _)⟩, by simp [intOf]; omega⟩)
        · have HPO := hide hpo
          have HPS := hide hps
          clear hpo hps
          go_wp2_with fail
          go_ret
          exact ⟨A3, k, c3, ps, by omega, hkc, HPS.out, rfl, HPO.out, hcr, htr⟩
/-- drawn policies and a drawn path, in new memory -/
def RetPlT (w : World) (en : Ending) (w' : World) : Prop :=
  ∃ (A : Option Addr) (n c : Nat) (ps : List Pl) (p : ByteArray), n ≤ 11 ∧ PlS ps ∧ p.size ≤ 200 ∧ en = .returned (.tuple #[.slice A n c, .string p]) ∧ PlR w' w'.heap.size A n ps ∧ Below w.heap.size w w'
theorem DrawCapsOf_c (Ac : Option Addr) (nc cc : Nat) (l : List UInt8) (w : World) (hr : Rd w w.heap.size 1 Ac nc (bC l)) (hn : nc ≤ 1048576) : Calls Tryd.prog 40 #[.slice Ac nc cc] w (RetPlT w) := by
  go_enter Tryd.func40, Tryd.ntmps40
  go_wp2_with fail
  refine (l01New_c Ac nc cc l w hr hn).mono ?_
  rintro e w1 ⟨rfl, hc1, hb1⟩
  go_wp2_with fail
  refine (l02DrawPolicies_c Ac nc cc _ _ w1 hc1 hn).mono ?_
  rintro e w2 ⟨A, n, c, ps, hn2, hnc, hps, rfl, ho2, hc2, hm2⟩
  have HPS := hide hps
  clear hps
  go_wp2_with fail
  refine (l01DrawPath_c _ _ w2 hc2).mono ?_
  rintro e w3 ⟨p, hp, rfl, hc3, hm3⟩
  have HO := hide ((ho2.tch hm3 (by have := hc1.lt; omega)).plr (by omega))
  have HB := hide (hb1.trans ((hm2.trans hm3).below2 (Nat.le_refl _) hb1.size))
  clear hc1 hb1 hc2 hm2 hc3 hm3 ho2
  go_wp2_with fail
  refine bodyPost_ret (v := .tuple #[.slice A n c, .string p]) (by simp [results, Tryd.results40, go_sem]) rfl ?_
  exact ⟨A, n, c, ps, p, hn2, HPS.out, hp, rfl, HO.out, HB.out⟩
end Go.Proofs.YtlhhdpjnoainiabDoor
