/- A drawn policy; its contract says for which arguments. -/
import Derived.Test.YtmjmjloiblbhcaaDoorBE1
import Derived.Test.YtmjmjloiblbhcaaDoorB6
import Derived.Test.YtmjmjloiblbhcaaDoorC4
import Derived.Test.YtmjmjloiblbhcaaDoorMemD
import Derived.Deep.DeepCutAuto
namespace Go.Proofs.YtmjmjloiblbhcaaDoor
open Go.RowKit
set_option maxRecDepth 100000
set_option maxHeartbeats 4000000
/-- a policy in new memory, the cursor gone on -/
def CurPol (base B : Nat) (w : World) (en : Ending) (w' : World) : Prop :=
  ∃ (nm : ByteArray) (A : Option Addr) (k c : Nat) (rs : List Rl), nm.size ≤ 13 ∧ k ≤ 64 ∧ k ≤ c ∧ (∀ r ∈ rs, r.1.size ≤ 200) ∧ en = .returned (.agg #[.string nm, .slice A k c]) ∧
    w'.ownsRow w.heap.size 53 2 (.slice A k c) k (rC rs) ∧ Cur w' base B ∧ Tch B (B + 1) w w'
theorem Rd.strAt {w : World} {hi b n : Nat} {l : List ByteArray} (h : Rd w hi 1 (some ⟨b, 0, none⟩) n (sC l)) {k : Nat} (hk : k < n) : b < hi ∧ ∃ hl : k < l.length, w.cell? ⟨b, k, none⟩ = some (.string l[k]) := by
  obtain ⟨b', off', e, hb, hl, hcell⟩ := h.str hk
  injection e with e
  injection e with e1 e2
  subst e1; subst e2
  rw [Nat.zero_add] at hcell
  exact ⟨hb, hl, hcell⟩
theorem own_some {w : World} {base e size n c : Nat} {A : Option Addr} {xs : List Value} (h : w.ownsRow base e size (.slice A n c) n xs) (hn : 0 < n) : ∃ g, A = some ⟨g, 0, none⟩ ∧ base ≤ g := by
  rcases h.2 with ⟨_, h0⟩ | ⟨g, cap, cur, hv, hb, _⟩
  · omega
  · injection hv with hv
    exact ⟨g, hv, hb⟩
theorem own_base {w : World} {base e size n c b : Nat} {xs : List Value} (h : w.ownsRow base e size (.slice (some ⟨b, 0, none⟩) n c) n xs) : base ≤ b ∧ b < w.heap.size := by
  rcases h.2 with ⟨h0, _⟩ | ⟨g, cap, cur, hv, hb, hg, _⟩
  · cases h0
  · injection hv with hv
    injection hv with hv
    injection hv with hv
    subst hv
    exact ⟨hb, (Array.getElem?_eq_some_iff.1 hg).1⟩
theorem Tch.cell {w w' : World} {B b o : Nat} {v : Value} (h : Tch B (B + 1) w w') (hc : w.cell? ⟨b, o, none⟩ = some v) (hb : b < w.heap.size) (hne : b ≠ B) : w'.cell? ⟨b, o, none⟩ = some v := (World.cell?_of_block (h.block b hb (by omega))).trans hc
theorem cell_al {w : World} {b o : Nat} {v : Value} (h : w.cell? ⟨b, o, none⟩ = some v) (hlt : b < w.heap.size) (ob : Obj) : (w.alloc ob).cell? ⟨b, o, none⟩ = some v :=
  cell_oldB h ((Below.refl w.heap.size w).alloc (Nat.le_refl _) ob) hlt
theorem Tch.setNew {lo hi : Nat} {a w : World} (h : Tch lo hi a w) {p : Addr} (hp : a.heap.size ≤ p.block) (u : Value) : Tch lo hi a (w.setCell p u) :=
  ⟨h.os, h.tape, h.output, by rw [World.size_setCell]; exact h.size, fun k hk hn => (Below.heap_setCell w p u k (by omega)).trans (h.block k hk hn)⟩
theorem own_cell {w : World} {base e size n c g : Nat} {xs : List Value} (h : w.ownsRow base e size (.slice (some ⟨g, 0, none⟩) n c) n xs) {j : Nat} (hj : j < n * size) : ∃ v, w.cell? ⟨g, j, none⟩ = some v := by
  have hl := h.1
  exact ⟨xs[j]'(by omega), (h.cellAt j hj).trans (List.getElem?_eq_getElem (by omega))⟩
theorem rC_setc {rs : List Rl} {j : Nat} (h : j < rs.length) (x : Int) : (rC rs).set (j * 2 + 1) (.int .i64 x) = rC (rs.set j (rs[j].1, x)) := by
  rw [rC_set]
  congr 1
  have h0 := rC_get0 rs j h
  refine List.ext_getElem? fun i => ?_
  rw [List.getElem?_set]
  split
  · rename_i e
    subst e
    split
    · exact h0
    · rename_i hn
      rw [List.getElem?_eq_none (by omega)]
  · rfl
def names4 : List ByteArray := [⟨#[111, 112, 115]⟩, ⟨#[100, 101, 118]⟩, ⟨#[114, 111, 111, 116, 49]⟩, ⟨#[97]⟩]
theorem l02DrawPolicy_c (n : Int) (base B : Nat) (w : World) (hc : Cur w base B) (hn : n ≤ 64) : Calls Tryd.prog 50 #[.pointer (some ⟨B, 0, none⟩), .int .i64 n] w (CurPol base B w) := by
  have hBW := hc.lt
  have C : Hid (Calls Tryd.prog 74 #[.pointer (some ⟨B, 0, none⟩), .slice (some ⟨w.heap.size + 1, 0, none⟩) 4 4] ((w.alloc (.cells #[.string ⟨#[]⟩, .slice none 0 0] 26)).alloc (.cells #[.string ⟨#[111, 112, 115]⟩, .string ⟨#[100, 101, 118]⟩, .string ⟨#[114, 111, 111, 116, 49]⟩, .string ⟨#[97]⟩] 9)) (CurS 13 base B ((w.alloc (.cells #[.string ⟨#[]⟩, .slice none 0 0] 26)).alloc (.cells #[.string ⟨#[111, 112, 115]⟩, .string ⟨#[100, 101, 118]⟩, .string ⟨#[114, 111, 111, 116, 49]⟩, .string ⟨#[97]⟩] 9)))) := by
    have h := (Ow.made (w.alloc (.cells #[.string ⟨#[]⟩, .slice none 0 0] 26)) #[.string ⟨#[111, 112, 115]⟩, .string ⟨#[100, 101, 118]⟩, .string ⟨#[114, 111, 111, 116, 49]⟩, .string ⟨#[97]⟩] 9 4 1 rfl (by omega)).rd
    refine l01PickText_c (w.heap.size + 1) 4 4 [⟨#[111, 112, 115]⟩, ⟨#[100, 101, 118]⟩, ⟨#[114, 111, 111, 116, 49]⟩, ⟨#[97]⟩] 13 base B _ (hc.below (by repeat (first | with_reducible exact Below.refl _ _ | with_reducible assumption | refine Below.alloc ?_ (by first | omega | (simp; done) | (simp; omega)) _ | refine Below.setCell ?_ (by first | omega | (simp; done) | (simp; omega)) _ | refine Below.drew ?_ | refine below_drewN ?_ _ | exact Below.refl _ _ | assumption))) ?_ (by simp) (by omega) (by omega) (by omega) (by decide)
    simp only [World.size_alloc] at h ⊢
    exact h
  have HC := hide hc
  clear hc
  go_enter Tryd.func50, Tryd.ntmps50
  go_wp2_with fail
  refine C.out.mono ?_
  rintro e w2 ⟨nm, hnm, rfl, hc2, hm2⟩
  have hs2 := hm2.size
  simp only [World.size_alloc] at hs2
  have HNM := hide hnm
  have HM2 := hide (show Tch B (B + 1) w w2 from (Tch.of_below (by repeat (first | with_reducible exact Below.refl _ _ | with_reducible assumption | refine Below.alloc ?_ (by first | omega | (simp; done) | (simp; omega)) _ | refine Below.setCell ?_ (by first | omega | (simp; done) | (simp; omega)) _ | refine Below.drew ?_ | refine below_drewN ?_ _ | exact Below.refl _ _ | assumption))).trans hm2)
  have HR2 : Hid (Blk w2 w.heap.size 26 #[.string ⟨#[]⟩, .slice none 0 0]) := (hm2.block w.heap.size (by simp; omega) (by omega)).trans ((Blk.new w 26 #[.string ⟨#[]⟩, .slice none 0 0]).alloc _)
  have HC2 := hide hc2
  have HBP := hide (show B < w2.heap.size + 1 by omega)
  clear hc2 hm2 hnm C HC
  go_wp2_with fail
  go_loopw [6, 7] (fun gv iv wr => ∃ (i : Nat) (gl : List ByteArray) (bg c : Nat), i ≤ 64 ∧ (i = 0 ∨ (i : Int) ≤ n) ∧ iv = .int .i64 (i : Int) ∧ gv = .slice (some ⟨bg, 0, none⟩) gl.length c ∧ gl.length ≤ i ∧ gl.length ≤ c ∧ (∀ x ∈ gl, x.size ≤ 200) ∧
    wr.ownsRow (w2.heap.size + 1) 9 1 (.slice (some ⟨bg, 0, none⟩) gl.length c) gl.length (sC gl) ∧ Cur wr base B ∧ Tc (fun k => k = B) (w2.alloc (.cells #[.string nm, .slice none 0 0] 26)) wr) (fun _ iv _ => 64 - (intOf iv).toNat)
  case atStart =>
    have h0 : ((w2.alloc (.cells #[.string nm, .slice none 0 0] 26)).alloc (.cells #[] 9)).ownsRow (w2.alloc (.cells #[.string nm, .slice none 0 0] 26)).heap.size 9 1 (.slice (some ⟨(w2.alloc (.cells #[.string nm, .slice none 0 0] 26)).heap.size, 0, none⟩) 0 0) 0 [] := World.ownsRow_made _ #[] 0 (Nat.le_refl _) (by omega) rfl
    simp only [World.size_alloc] at h0
    exact ⟨0, [], _, _, by omega, .inl rfl, rfl, rfl, by simp, Nat.le_refl _, by simp, h0, HC2.out.below (by repeat (first | with_reducible exact Below.refl _ _ | with_reducible assumption | refine Below.alloc ?_ (by first | omega | (simp; done) | (simp; omega)) _ | refine Below.setCell ?_ (by first | omega | (simp; done) | (simp; omega)) _ | refine Below.drew ?_ | refine below_drewN ?_ _ | exact Below.refl _ _ | assumption)), (Tc.refl _ _).alloc _⟩
  case round =>
    obtain ⟨i, gl, bg, c, hi, hin, rfl, rfl, hgi, hkc0, hgs, ho, hcr, ht⟩ := hrel
    have HGS := hide hgs
    have HOr := hide ho
    have HCr := hide hcr
    have HTr := hide ht
    clear hgs ho hcr ht
    by_cases hlt : (i : Int) < n
    · go_wp2_with fail
      refine (l01DrawGlob_c base B _ HCr.out).mono ?_
      rintro e w4 ⟨g, hg, rfl, hc4, hm4⟩
      have HGZ := hide hg
      have HC4 := hide hc4
      have HT4 := hide (HTr.out.tch hm4 rfl)
      have HO4 := hide (own_tch HOr.out hm4 HBP.out)
      have CG := hide (GlobOk_s g w4 (by omega))
      clear hc4 hm4 hg
      go_wp2_with fail
      refine CG.out.mono ?_
      rintro e w5 ⟨rfl, hb5⟩
      have HC5 := hide (HC4.out.below hb5)
      have HT5 := hide (HT4.out.grow hb5 HT4.out.size)
      have HO5 := hide (own_below HO4.out hb5)
      clear hb5 CG
      cases hgb : globB g
      · clear hgb
        go_wp2_with fail
        refine (l01Once_c 20 base B _ HC5.out (by omega)).mono ?_
        rintro e w6 ⟨b6, rfl, hc6, hm6⟩
        have HC6 := hide hc6
        have HT6 := hide (HT5.out.tch hm6 rfl)
        have HO6 := hide (own_tch HO5.out hm6 HBP.out)
        clear hc6 hm6
        cases b6
        · go_wp2_with fail
          refine ⟨⟨i + 1, gl, bg, c, by omega, .inr (by omega), by go_num, rfl, by omega, hkc0, HGS.out, HO6.out, HC6.out, HT6.out⟩, by simp [intOf]; omega⟩
        · have HO5 := HO6
          have HC5 := HC6
          have HT5 := HT6
          go_wp2_with fail
          go_loop [9] (fun av => ∃ a : Nat, a ≤ gl.length ∧ av = .int .i64 (a : Int)) (fun av => gl.length - (intOf av).toNat)
          case atStart => exact ⟨0, by omega, rfl⟩
          case round =>
            obtain ⟨a, ha, rfl⟩ := hrel
            by_cases hla : a < gl.length
            · obtain ⟨hblt, hl, hcell⟩ := (own_rd HO6.out).strAt hla
              cases hbl : Op.bytesLess gl[a].toList g.toList
              · cases heq : (gl[a].toList == g.toList)
                · have HOY := HO6
                  have HCY := HC6
                  have HTY := HT6
                  have HLT := HCY.out.lt
                  have hRY := hide (own_rd HOY.out)
                  go_wp2_with fail
                  go_loopw [10, 11] (fun nv kv wr => ∃ (k : Nat) (m : List ByteArray) (A3 : Option Addr) (c3 : Nat), k ≤ a ∧ kv = .int .i64 (k : Int) ∧ nv = .slice A3 k c3 ∧ k ≤ c3 ∧ (∀ x ∈ m, x.size ≤ 200) ∧ wr.ownsRow w6.heap.size 9 1 (.slice A3 k c3) k (sC m) ∧ Below w6.heap.size w6 wr) (fun _ kv _ => a - (intOf kv).toNat)
                  case atStart => exact ⟨0, [], _, _, by omega, rfl, rfl, Nat.le_refl _, by simp, World.ownsRow_made w6 #[] 0 (Nat.le_refl _) (by omega) rfl, (by repeat (first | with_reducible exact Below.refl _ _ | with_reducible assumption | refine Below.alloc ?_ (by first | omega | (simp; done) | (simp; omega)) _ | refine Below.setCell ?_ (by first | omega | (simp; done) | (simp; omega)) _ | refine Below.drew ?_ | refine below_drewN ?_ _ | exact Below.refl _ _ | assumption))⟩
                  case round =>
                    obtain ⟨k, m, A3, c3, hk, rfl, rfl, hkc, hms, ho3, hb3⟩ := hrel
                    have HO3 := hide ho3
                    have HB3 := hide hb3
                    have HMS := hide hms
                    have hsz := hb3.size
                    clear ho3 hb3 hms
                    by_cases hlk : k < a
                    · obtain ⟨hblt3, hl3, hcell3⟩ := (hRY.out.below HB3.out (Nat.le_refl _)).strAt (k := k) (by omega)
                      have HSM := hide (HGS.out _ (List.getElem_mem hl3))
                      go_wp2_with (at_builtin; refine wpList_push wr rfl (.tmp 71) (.tmp 76) 58 rfl w6.heap.size 9 _ 1 16 Tryd.underlying58 info_s rfl (by omega) A3 (k) c3 _ [.string gl[k]] rfl HO3.out rfl rfl (by simp [Value.oneCell']) (by omega) (by omega) hsz ?_; intro A4 c4 w9 hc9 hown9 hg9 _)
                      exact ⟨⟨k + 1, m ++ [gl[k]], A4, c4, by omega, by go_num, rfl, hc9, fun x hx => by
                        rcases List.mem_append.1 hx with hx | hx
                        · exact HMS.out x hx
                        · rw [List.mem_singleton.1 hx]; exact HSM.out, by rw [sC_snoc] at hown9; exact hown9, HB3.out.trans (grown_below HO3.out hg9 hsz)⟩, by simp [intOf]; omega⟩
                    · have hka : k = a := by omega
                      subst hka
                      go_wp2_with (at_builtin; refine wpList_push wr rfl (.tmp 78) (.tmp 80) 58 rfl w6.heap.size 9 _ 1 16 Tryd.underlying58 info_s rfl (by omega) A3 (k) c3 _ [.string g] rfl HO3.out rfl rfl (by simp [Value.oneCell']) (by omega) (by omega) hsz ?_; intro A4 c4 w9 hc9 hown9 hg9 _)
                      have HO9 := hide hown9
                      have HB9 := hide (HB3.out.trans (grown_below HO3.out hg9 hsz))
                      have HMS9 : Hid (∀ x ∈ m ++ [g], x.size ≤ 200) := fun x hx => by
                        rcases List.mem_append.1 hx with hx | hx
                        · exact HMS.out x hx
                        · rw [List.mem_singleton.1 hx]; exact HGZ.out
                      clear hown9 hg9 HO3 HB3 HMS
                      go_wp2_with fail
                      go_loopw [10, 12] (fun nv kv wr => ∃ (j : Nat) (m : List ByteArray) (A3 : Option Addr) (c3 : Nat), k ≤ j ∧ j ≤ gl.length ∧ kv = .int .i64 (j : Int) ∧ nv = .slice A3 (j + 1) c3 ∧ j + 1 ≤ c3 ∧ (∀ x ∈ m, x.size ≤ 200) ∧ wr.ownsRow w6.heap.size 9 1 (.slice A3 (j + 1) c3) (j + 1) (sC m) ∧ Below w6.heap.size w6 wr) (fun _ kv _ => gl.length - (intOf kv).toNat)
                      case atStart => exact ⟨k, m ++ [g], A4, c4, Nat.le_refl _, by omega, rfl, rfl, hc9, HMS9.out, by have h := HO9.out; rw [sC_snoc] at h; exact h, HB9.out⟩
                      case round =>
                        obtain ⟨j, m, A3, c3, hkj, hj, rfl, rfl, hkc, hms, ho3, hb3⟩ := hrel
                        have HO3 := hide ho3
                        have HB3 := hide hb3
                        have HMS := hide hms
                        have hsz := hb3.size
                        clear ho3 hb3 hms
                        by_cases hlj : j < gl.length
                        · obtain ⟨hblt3, hl3, hcell3⟩ := (hRY.out.below HB3.out (Nat.le_refl _)).strAt (k := j) (by omega)
                          have HSM := hide (HGS.out _ (List.getElem_mem hl3))
                          go_wp2_with (at_builtin; refine wpList_push wr rfl (.tmp 89) (.tmp 94) 58 rfl w6.heap.size 9 _ 1 16 Tryd.underlying58 info_s rfl (by omega) A3 (j + 1) c3 _ [.string gl[j]] rfl HO3.out rfl rfl (by simp [Value.oneCell']) (by omega) (by omega) hsz ?_; intro A4 c4 w9 hc9 hown9 hg9 _)
                          first | (exfalso; omega) | exact ⟨⟨j + 1, m ++ [gl[j]], A4, c4, by omega, by omega, by go_num, rfl, hc9, fun x hx => by
                            rcases List.mem_append.1 hx with hx | hx
                            · exact HMS.out x hx
                            · rw [List.mem_singleton.1 hx]; exact HSM.out, by rw [sC_snoc] at hown9; exact hown9, HB3.out.trans (grown_below HO3.out hg9 hsz)⟩, by simp [intOf]; omega⟩
                        · have hjl : j = gl.length := by omega
                          subst hjl
                          go_wp2_with fail
                          have hml : m.length = gl.length + 1 := by have := HO3.out.1; rw [sC_length] at this; omega
                          obtain ⟨b9, rfl, _⟩ := own_some HO3.out (by omega)
                          refine ⟨⟨i + 1, m, b9, c3, by omega, .inr (by omega), by go_num, by rw [hml], by omega, by omega, HMS.out, ?_, HCY.out.below' HB3.out HLT, HTY.out.grow HB3.out HTY.out.size⟩, by simp [intOf]; omega⟩
                          rw [hml]
                          exact own_mono HO3.out (by have := HTY.out.size; simp at this; omega)
                · go_wp2_with fail
                  refine (l01Once_c 30 base B _ HC6.out (by omega)).mono ?_
                  rintro e w7 ⟨b7, rfl, hc7, hm7⟩
                  have HCY := hide hc7
                  have HTY := hide (HT6.out.tch hm7 rfl)
                  have HOY := hide (own_tch HO6.out hm7 HBP.out)
                  clear hc7 hm7 hcell
                  cases b7
                  · go_wp2_with fail
                    refine ⟨⟨i + 1, gl, bg, c, by omega, .inr (by omega), by go_num, rfl, by omega, hkc0, HGS.out, HOY.out, HCY.out, HTY.out⟩, by simp [intOf]; omega⟩
                  · clear heq hbl
                    have HLT := HCY.out.lt
                    have hRY := hide (own_rd HOY.out)
                    go_wp2_with fail
                    go_loopw [10, 11] (fun nv kv wr => ∃ (k : Nat) (m : List ByteArray) (A3 : Option Addr) (c3 : Nat), k ≤ a ∧ kv = .int .i64 (k : Int) ∧ nv = .slice A3 k c3 ∧ k ≤ c3 ∧ (∀ x ∈ m, x.size ≤ 200) ∧ wr.ownsRow w7.heap.size 9 1 (.slice A3 k c3) k (sC m) ∧ Below w7.heap.size w7 wr) (fun _ kv _ => a - (intOf kv).toNat)
                    case atStart => exact ⟨0, [], _, _, by omega, rfl, rfl, Nat.le_refl _, by simp, World.ownsRow_made w7 #[] 0 (Nat.le_refl _) (by omega) rfl, (by repeat (first | with_reducible exact Below.refl _ _ | with_reducible assumption | refine Below.alloc ?_ (by first | omega | (simp; done) | (simp; omega)) _ | refine Below.setCell ?_ (by first | omega | (simp; done) | (simp; omega)) _ | refine Below.drew ?_ | refine below_drewN ?_ _ | exact Below.refl _ _ | assumption))⟩
                    case round =>
                      obtain ⟨k, m, A3, c3, hk, rfl, rfl, hkc, hms, ho3, hb3⟩ := hrel
                      have HO3 := hide ho3
                      have HB3 := hide hb3
                      have HMS := hide hms
                      have hsz := hb3.size
                      clear ho3 hb3 hms
                      by_cases hlk : k < a
                      · obtain ⟨hblt3, hl3, hcell3⟩ := (hRY.out.below HB3.out (Nat.le_refl _)).strAt (k := k) (by omega)
                        have HSM := hide (HGS.out _ (List.getElem_mem hl3))
                        go_wp2_with (at_builtin; refine wpList_push wr rfl (.tmp 71) (.tmp 76) 58 rfl w7.heap.size 9 _ 1 16 Tryd.underlying58 info_s rfl (by omega) A3 (k) c3 _ [.string gl[k]] rfl HO3.out rfl rfl (by simp [Value.oneCell']) (by omega) (by omega) hsz ?_; intro A4 c4 w9 hc9 hown9 hg9 _)
                        exact ⟨⟨k + 1, m ++ [gl[k]], A4, c4, by omega, by go_num, rfl, hc9, fun x hx => by
                          rcases List.mem_append.1 hx with hx | hx
                          · exact HMS.out x hx
                          · rw [List.mem_singleton.1 hx]; exact HSM.out, by rw [sC_snoc] at hown9; exact hown9, HB3.out.trans (grown_below HO3.out hg9 hsz)⟩, by simp [intOf]; omega⟩
                      · have hka : k = a := by omega
                        subst hka
                        go_wp2_with (at_builtin; refine wpList_push wr rfl (.tmp 78) (.tmp 80) 58 rfl w7.heap.size 9 _ 1 16 Tryd.underlying58 info_s rfl (by omega) A3 (k) c3 _ [.string g] rfl HO3.out rfl rfl (by simp [Value.oneCell']) (by omega) (by omega) hsz ?_; intro A4 c4 w9 hc9 hown9 hg9 _)
                        have HO9 := hide hown9
                        have HB9 := hide (HB3.out.trans (grown_below HO3.out hg9 hsz))
                        have HMS9 : Hid (∀ x ∈ m ++ [g], x.size ≤ 200) := fun x hx => by
                          rcases List.mem_append.1 hx with hx | hx
                          · exact HMS.out x hx
                          · rw [List.mem_singleton.1 hx]; exact HGZ.out
                        clear hown9 hg9 HO3 HB3 HMS
                        go_wp2_with fail
                        go_loopw [10, 12] (fun nv kv wr => ∃ (j : Nat) (m : List ByteArray) (A3 : Option Addr) (c3 : Nat), k ≤ j ∧ j ≤ gl.length ∧ kv = .int .i64 (j : Int) ∧ nv = .slice A3 (j + 1) c3 ∧ j + 1 ≤ c3 ∧ (∀ x ∈ m, x.size ≤ 200) ∧ wr.ownsRow w7.heap.size 9 1 (.slice A3 (j + 1) c3) (j + 1) (sC m) ∧ Below w7.heap.size w7 wr) (fun _ kv _ => gl.length - (intOf kv).toNat)
                        case atStart => exact ⟨k, m ++ [g], A4, c4, Nat.le_refl _, by omega, rfl, rfl, hc9, HMS9.out, by have h := HO9.out; rw [sC_snoc] at h; exact h, HB9.out⟩
                        case round =>
                          obtain ⟨j, m, A3, c3, hkj, hj, rfl, rfl, hkc, hms, ho3, hb3⟩ := hrel
                          have HO3 := hide ho3
                          have HB3 := hide hb3
                          have HMS := hide hms
                          have hsz := hb3.size
                          clear ho3 hb3 hms
                          by_cases hlj : j < gl.length
                          · obtain ⟨hblt3, hl3, hcell3⟩ := (hRY.out.below HB3.out (Nat.le_refl _)).strAt (k := j) (by omega)
                            have HSM := hide (HGS.out _ (List.getElem_mem hl3))
                            go_wp2_with (at_builtin; refine wpList_push wr rfl (.tmp 89) (.tmp 94) 58 rfl w7.heap.size 9 _ 1 16 Tryd.underlying58 info_s rfl (by omega) A3 (j + 1) c3 _ [.string gl[j]] rfl HO3.out rfl rfl (by simp [Value.oneCell']) (by omega) (by omega) hsz ?_; intro A4 c4 w9 hc9 hown9 hg9 _)
                            first | (exfalso; omega) | exact ⟨⟨j + 1, m ++ [gl[j]], A4, c4, by omega, by omega, by go_num, rfl, hc9, fun x hx => by
                              rcases List.mem_append.1 hx with hx | hx
                              · exact HMS.out x hx
                              · rw [List.mem_singleton.1 hx]; exact HSM.out, by rw [sC_snoc] at hown9; exact hown9, HB3.out.trans (grown_below HO3.out hg9 hsz)⟩, by simp [intOf]; omega⟩
                          · have hjl : j = gl.length := by omega
                            subst hjl
                            go_wp2_with fail
                            have hml : m.length = gl.length + 1 := by have := HO3.out.1; rw [sC_length] at this; omega
                            obtain ⟨b9, rfl, _⟩ := own_some HO3.out (by omega)
                            refine ⟨⟨i + 1, m, b9, c3, by omega, .inr (by omega), by go_num, by rw [hml], by omega, by omega, HMS.out, ?_, HCY.out.below' HB3.out HLT, HTY.out.grow HB3.out HTY.out.size⟩, by simp [intOf]; omega⟩
                            rw [hml]
                            exact own_mono HO3.out (by have := HTY.out.size; simp at this; omega)
              · go_wp2_with fail
                exact ⟨⟨a + 1, by omega, by go_num⟩, by simp [intOf]; omega⟩
            · skip
              have HOY := HO6
              have HCY := HC6
              have HTY := HT6
              have HLT := HCY.out.lt
              have hRY := hide (own_rd HOY.out)
              go_wp2_with fail
              go_loopw [10, 11] (fun nv kv wr => ∃ (k : Nat) (m : List ByteArray) (A3 : Option Addr) (c3 : Nat), k ≤ a ∧ kv = .int .i64 (k : Int) ∧ nv = .slice A3 k c3 ∧ k ≤ c3 ∧ (∀ x ∈ m, x.size ≤ 200) ∧ wr.ownsRow w6.heap.size 9 1 (.slice A3 k c3) k (sC m) ∧ Below w6.heap.size w6 wr) (fun _ kv _ => a - (intOf kv).toNat)
              case atStart => exact ⟨0, [], _, _, by omega, rfl, rfl, Nat.le_refl _, by simp, World.ownsRow_made w6 #[] 0 (Nat.le_refl _) (by omega) rfl, (by repeat (first | with_reducible exact Below.refl _ _ | with_reducible assumption | refine Below.alloc ?_ (by first | omega | (simp; done) | (simp; omega)) _ | refine Below.setCell ?_ (by first | omega | (simp; done) | (simp; omega)) _ | refine Below.drew ?_ | refine below_drewN ?_ _ | exact Below.refl _ _ | assumption))⟩
              case round =>
                obtain ⟨k, m, A3, c3, hk, rfl, rfl, hkc, hms, ho3, hb3⟩ := hrel
                have HO3 := hide ho3
                have HB3 := hide hb3
                have HMS := hide hms
                have hsz := hb3.size
                clear ho3 hb3 hms
                by_cases hlk : k < a
                · obtain ⟨hblt3, hl3, hcell3⟩ := (hRY.out.below HB3.out (Nat.le_refl _)).strAt (k := k) (by omega)
                  have HSM := hide (HGS.out _ (List.getElem_mem hl3))
                  go_wp2_with (at_builtin; refine wpList_push wr rfl (.tmp 71) (.tmp 76) 58 rfl w6.heap.size 9 _ 1 16 Tryd.underlying58 info_s rfl (by omega) A3 (k) c3 _ [.string gl[k]] rfl HO3.out rfl rfl (by simp [Value.oneCell']) (by omega) (by omega) hsz ?_; intro A4 c4 w9 hc9 hown9 hg9 _)
                  exact ⟨⟨k + 1, m ++ [gl[k]], A4, c4, by omega, by go_num, rfl, hc9, fun x hx => by
                    rcases List.mem_append.1 hx with hx | hx
                    · exact HMS.out x hx
                    · rw [List.mem_singleton.1 hx]; exact HSM.out, by rw [sC_snoc] at hown9; exact hown9, HB3.out.trans (grown_below HO3.out hg9 hsz)⟩, by simp [intOf]; omega⟩
                · have hka : k = a := by omega
                  subst hka
                  go_wp2_with (at_builtin; refine wpList_push wr rfl (.tmp 78) (.tmp 80) 58 rfl w6.heap.size 9 _ 1 16 Tryd.underlying58 info_s rfl (by omega) A3 (k) c3 _ [.string g] rfl HO3.out rfl rfl (by simp [Value.oneCell']) (by omega) (by omega) hsz ?_; intro A4 c4 w9 hc9 hown9 hg9 _)
                  have HO9 := hide hown9
                  have HB9 := hide (HB3.out.trans (grown_below HO3.out hg9 hsz))
                  have HMS9 : Hid (∀ x ∈ m ++ [g], x.size ≤ 200) := fun x hx => by
                    rcases List.mem_append.1 hx with hx | hx
                    · exact HMS.out x hx
                    · rw [List.mem_singleton.1 hx]; exact HGZ.out
                  clear hown9 hg9 HO3 HB3 HMS
                  go_wp2_with fail
                  go_loopw [10, 12] (fun nv kv wr => ∃ (j : Nat) (m : List ByteArray) (A3 : Option Addr) (c3 : Nat), k ≤ j ∧ j ≤ gl.length ∧ kv = .int .i64 (j : Int) ∧ nv = .slice A3 (j + 1) c3 ∧ j + 1 ≤ c3 ∧ (∀ x ∈ m, x.size ≤ 200) ∧ wr.ownsRow w6.heap.size 9 1 (.slice A3 (j + 1) c3) (j + 1) (sC m) ∧ Below w6.heap.size w6 wr) (fun _ kv _ => gl.length - (intOf kv).toNat)
                  case atStart => exact ⟨k, m ++ [g], A4, c4, Nat.le_refl _, by omega, rfl, rfl, hc9, HMS9.out, by have h := HO9.out; rw [sC_snoc] at h; exact h, HB9.out⟩
                  case round =>
                    obtain ⟨j, m, A3, c3, hkj, hj, rfl, rfl, hkc, hms, ho3, hb3⟩ := hrel
                    have HO3 := hide ho3
                    have HB3 := hide hb3
                    have HMS := hide hms
                    have hsz := hb3.size
                    clear ho3 hb3 hms
                    by_cases hlj : j < gl.length
                    · obtain ⟨hblt3, hl3, hcell3⟩ := (hRY.out.below HB3.out (Nat.le_refl _)).strAt (k := j) (by omega)
                      have HSM := hide (HGS.out _ (List.getElem_mem hl3))
                      go_wp2_with (at_builtin; refine wpList_push wr rfl (.tmp 89) (.tmp 94) 58 rfl w6.heap.size 9 _ 1 16 Tryd.underlying58 info_s rfl (by omega) A3 (j + 1) c3 _ [.string gl[j]] rfl HO3.out rfl rfl (by simp [Value.oneCell']) (by omega) (by omega) hsz ?_; intro A4 c4 w9 hc9 hown9 hg9 _)
                      first | (exfalso; omega) | exact ⟨⟨j + 1, m ++ [gl[j]], A4, c4, by omega, by omega, by go_num, rfl, hc9, fun x hx => by
                        rcases List.mem_append.1 hx with hx | hx
                        · exact HMS.out x hx
                        · rw [List.mem_singleton.1 hx]; exact HSM.out, by rw [sC_snoc] at hown9; exact hown9, HB3.out.trans (grown_below HO3.out hg9 hsz)⟩, by simp [intOf]; omega⟩
                    · have hjl : j = gl.length := by omega
                      subst hjl
                      go_wp2_with fail
                      have hml : m.length = gl.length + 1 := by have := HO3.out.1; rw [sC_length] at this; omega
                      obtain ⟨b9, rfl, _⟩ := own_some HO3.out (by omega)
                      refine ⟨⟨i + 1, m, b9, c3, by omega, .inr (by omega), by go_num, by rw [hml], by omega, by omega, HMS.out, ?_, HCY.out.below' HB3.out HLT, HTY.out.grow HB3.out HTY.out.size⟩, by simp [intOf]; omega⟩
                      rw [hml]
                      exact own_mono HO3.out (by have := HTY.out.size; simp at this; omega)
      · clear hgb
        go_wp2_with fail
        go_loop [9] (fun av => ∃ a : Nat, a ≤ gl.length ∧ av = .int .i64 (a : Int)) (fun av => gl.length - (intOf av).toNat)
        case atStart => exact ⟨0, by omega, rfl⟩
        case round =>
          obtain ⟨a, ha, rfl⟩ := hrel
          by_cases hla : a < gl.length
          · obtain ⟨hblt, hl, hcell⟩ := (own_rd HO5.out).strAt hla
            cases hbl : Op.bytesLess gl[a].toList g.toList
            · cases heq : (gl[a].toList == g.toList)
              · have HOY := HO5
                have HCY := HC5
                have HTY := HT5
                have HLT := HCY.out.lt
                have hRY := hide (own_rd HOY.out)
                go_wp2_with fail
                go_loopw [10, 11] (fun nv kv wr => ∃ (k : Nat) (m : List ByteArray) (A3 : Option Addr) (c3 : Nat), k ≤ a ∧ kv = .int .i64 (k : Int) ∧ nv = .slice A3 k c3 ∧ k ≤ c3 ∧ (∀ x ∈ m, x.size ≤ 200) ∧ wr.ownsRow w5.heap.size 9 1 (.slice A3 k c3) k (sC m) ∧ Below w5.heap.size w5 wr) (fun _ kv _ => a - (intOf kv).toNat)
                case atStart => exact ⟨0, [], _, _, by omega, rfl, rfl, Nat.le_refl _, by simp, World.ownsRow_made w5 #[] 0 (Nat.le_refl _) (by omega) rfl, (by repeat (first | with_reducible exact Below.refl _ _ | with_reducible assumption | refine Below.alloc ?_ (by first | omega | (simp; done) | (simp; omega)) _ | refine Below.setCell ?_ (by first | omega | (simp; done) | (simp; omega)) _ | refine Below.drew ?_ | refine below_drewN ?_ _ | exact Below.refl _ _ | assumption))⟩
                case round =>
                  obtain ⟨k, m, A3, c3, hk, rfl, rfl, hkc, hms, ho3, hb3⟩ := hrel
                  have HO3 := hide ho3
                  have HB3 := hide hb3
                  have HMS := hide hms
                  have hsz := hb3.size
                  clear ho3 hb3 hms
                  by_cases hlk : k < a
                  · obtain ⟨hblt3, hl3, hcell3⟩ := (hRY.out.below HB3.out (Nat.le_refl _)).strAt (k := k) (by omega)
                    have HSM := hide (HGS.out _ (List.getElem_mem hl3))
                    go_wp2_with (at_builtin; refine wpList_push wr rfl (.tmp 71) (.tmp 76) 58 rfl w5.heap.size 9 _ 1 16 Tryd.underlying58 info_s rfl (by omega) A3 (k) c3 _ [.string gl[k]] rfl HO3.out rfl rfl (by simp [Value.oneCell']) (by omega) (by omega) hsz ?_; intro A4 c4 w9 hc9 hown9 hg9 _)
                    exact ⟨⟨k + 1, m ++ [gl[k]], A4, c4, by omega, by go_num, rfl, hc9, fun x hx => by
                      rcases List.mem_append.1 hx with hx | hx
                      · exact HMS.out x hx
                      · rw [List.mem_singleton.1 hx]; exact HSM.out, by rw [sC_snoc] at hown9; exact hown9, HB3.out.trans (grown_below HO3.out hg9 hsz)⟩, by simp [intOf]; omega⟩
                  · have hka : k = a := by omega
                    subst hka
                    go_wp2_with (at_builtin; refine wpList_push wr rfl (.tmp 78) (.tmp 80) 58 rfl w5.heap.size 9 _ 1 16 Tryd.underlying58 info_s rfl (by omega) A3 (k) c3 _ [.string g] rfl HO3.out rfl rfl (by simp [Value.oneCell']) (by omega) (by omega) hsz ?_; intro A4 c4 w9 hc9 hown9 hg9 _)
                    have HO9 := hide hown9
                    have HB9 := hide (HB3.out.trans (grown_below HO3.out hg9 hsz))
                    have HMS9 : Hid (∀ x ∈ m ++ [g], x.size ≤ 200) := fun x hx => by
                      rcases List.mem_append.1 hx with hx | hx
                      · exact HMS.out x hx
                      · rw [List.mem_singleton.1 hx]; exact HGZ.out
                    clear hown9 hg9 HO3 HB3 HMS
                    go_wp2_with fail
                    go_loopw [10, 12] (fun nv kv wr => ∃ (j : Nat) (m : List ByteArray) (A3 : Option Addr) (c3 : Nat), k ≤ j ∧ j ≤ gl.length ∧ kv = .int .i64 (j : Int) ∧ nv = .slice A3 (j + 1) c3 ∧ j + 1 ≤ c3 ∧ (∀ x ∈ m, x.size ≤ 200) ∧ wr.ownsRow w5.heap.size 9 1 (.slice A3 (j + 1) c3) (j + 1) (sC m) ∧ Below w5.heap.size w5 wr) (fun _ kv _ => gl.length - (intOf kv).toNat)
                    case atStart => exact ⟨k, m ++ [g], A4, c4, Nat.le_refl _, by omega, rfl, rfl, hc9, HMS9.out, by have h := HO9.out; rw [sC_snoc] at h; exact h, HB9.out⟩
                    case round =>
                      obtain ⟨j, m, A3, c3, hkj, hj, rfl, rfl, hkc, hms, ho3, hb3⟩ := hrel
                      have HO3 := hide ho3
                      have HB3 := hide hb3
                      have HMS := hide hms
                      have hsz := hb3.size
                      clear ho3 hb3 hms
                      by_cases hlj : j < gl.length
                      · obtain ⟨hblt3, hl3, hcell3⟩ := (hRY.out.below HB3.out (Nat.le_refl _)).strAt (k := j) (by omega)
                        have HSM := hide (HGS.out _ (List.getElem_mem hl3))
                        go_wp2_with (at_builtin; refine wpList_push wr rfl (.tmp 89) (.tmp 94) 58 rfl w5.heap.size 9 _ 1 16 Tryd.underlying58 info_s rfl (by omega) A3 (j + 1) c3 _ [.string gl[j]] rfl HO3.out rfl rfl (by simp [Value.oneCell']) (by omega) (by omega) hsz ?_; intro A4 c4 w9 hc9 hown9 hg9 _)
                        first | (exfalso; omega) | exact ⟨⟨j + 1, m ++ [gl[j]], A4, c4, by omega, by omega, by go_num, rfl, hc9, fun x hx => by
                          rcases List.mem_append.1 hx with hx | hx
                          · exact HMS.out x hx
                          · rw [List.mem_singleton.1 hx]; exact HSM.out, by rw [sC_snoc] at hown9; exact hown9, HB3.out.trans (grown_below HO3.out hg9 hsz)⟩, by simp [intOf]; omega⟩
                      · have hjl : j = gl.length := by omega
                        subst hjl
                        go_wp2_with fail
                        have hml : m.length = gl.length + 1 := by have := HO3.out.1; rw [sC_length] at this; omega
                        obtain ⟨b9, rfl, _⟩ := own_some HO3.out (by omega)
                        refine ⟨⟨i + 1, m, b9, c3, by omega, .inr (by omega), by go_num, by rw [hml], by omega, by omega, HMS.out, ?_, HCY.out.below' HB3.out HLT, HTY.out.grow HB3.out HTY.out.size⟩, by simp [intOf]; omega⟩
                        rw [hml]
                        exact own_mono HO3.out (by have := HTY.out.size; simp at this; omega)
              · go_wp2_with fail
                refine (l01Once_c 30 base B _ HC5.out (by omega)).mono ?_
                rintro e w7 ⟨b7, rfl, hc7, hm7⟩
                have HCY := hide hc7
                have HTY := hide (HT5.out.tch hm7 rfl)
                have HOY := hide (own_tch HO5.out hm7 HBP.out)
                clear hc7 hm7 hcell
                cases b7
                · go_wp2_with fail
                  refine ⟨⟨i + 1, gl, bg, c, by omega, .inr (by omega), by go_num, rfl, by omega, hkc0, HGS.out, HOY.out, HCY.out, HTY.out⟩, by simp [intOf]; omega⟩
                · clear heq hbl
                  have HLT := HCY.out.lt
                  have hRY := hide (own_rd HOY.out)
                  go_wp2_with fail
                  go_loopw [10, 11] (fun nv kv wr => ∃ (k : Nat) (m : List ByteArray) (A3 : Option Addr) (c3 : Nat), k ≤ a ∧ kv = .int .i64 (k : Int) ∧ nv = .slice A3 k c3 ∧ k ≤ c3 ∧ (∀ x ∈ m, x.size ≤ 200) ∧ wr.ownsRow w7.heap.size 9 1 (.slice A3 k c3) k (sC m) ∧ Below w7.heap.size w7 wr) (fun _ kv _ => a - (intOf kv).toNat)
                  case atStart => exact ⟨0, [], _, _, by omega, rfl, rfl, Nat.le_refl _, by simp, World.ownsRow_made w7 #[] 0 (Nat.le_refl _) (by omega) rfl, (by repeat (first | with_reducible exact Below.refl _ _ | with_reducible assumption | refine Below.alloc ?_ (by first | omega | (simp; done) | (simp; omega)) _ | refine Below.setCell ?_ (by first | omega | (simp; done) | (simp; omega)) _ | refine Below.drew ?_ | refine below_drewN ?_ _ | exact Below.refl _ _ | assumption))⟩
                  case round =>
                    obtain ⟨k, m, A3, c3, hk, rfl, rfl, hkc, hms, ho3, hb3⟩ := hrel
                    have HO3 := hide ho3
                    have HB3 := hide hb3
                    have HMS := hide hms
                    have hsz := hb3.size
                    clear ho3 hb3 hms
                    by_cases hlk : k < a
                    · obtain ⟨hblt3, hl3, hcell3⟩ := (hRY.out.below HB3.out (Nat.le_refl _)).strAt (k := k) (by omega)
                      have HSM := hide (HGS.out _ (List.getElem_mem hl3))
                      go_wp2_with (at_builtin; refine wpList_push wr rfl (.tmp 71) (.tmp 76) 58 rfl w7.heap.size 9 _ 1 16 Tryd.underlying58 info_s rfl (by omega) A3 (k) c3 _ [.string gl[k]] rfl HO3.out rfl rfl (by simp [Value.oneCell']) (by omega) (by omega) hsz ?_; intro A4 c4 w9 hc9 hown9 hg9 _)
                      exact ⟨⟨k + 1, m ++ [gl[k]], A4, c4, by omega, by go_num, rfl, hc9, fun x hx => by
                        rcases List.mem_append.1 hx with hx | hx
                        · exact HMS.out x hx
                        · rw [List.mem_singleton.1 hx]; exact HSM.out, by rw [sC_snoc] at hown9; exact hown9, HB3.out.trans (grown_below HO3.out hg9 hsz)⟩, by simp [intOf]; omega⟩
                    · have hka : k = a := by omega
                      subst hka
                      go_wp2_with (at_builtin; refine wpList_push wr rfl (.tmp 78) (.tmp 80) 58 rfl w7.heap.size 9 _ 1 16 Tryd.underlying58 info_s rfl (by omega) A3 (k) c3 _ [.string g] rfl HO3.out rfl rfl (by simp [Value.oneCell']) (by omega) (by omega) hsz ?_; intro A4 c4 w9 hc9 hown9 hg9 _)
                      have HO9 := hide hown9
                      have HB9 := hide (HB3.out.trans (grown_below HO3.out hg9 hsz))
                      have HMS9 : Hid (∀ x ∈ m ++ [g], x.size ≤ 200) := fun x hx => by
                        rcases List.mem_append.1 hx with hx | hx
                        · exact HMS.out x hx
                        · rw [List.mem_singleton.1 hx]; exact HGZ.out
                      clear hown9 hg9 HO3 HB3 HMS
                      go_wp2_with fail
                      go_loopw [10, 12] (fun nv kv wr => ∃ (j : Nat) (m : List ByteArray) (A3 : Option Addr) (c3 : Nat), k ≤ j ∧ j ≤ gl.length ∧ kv = .int .i64 (j : Int) ∧ nv = .slice A3 (j + 1) c3 ∧ j + 1 ≤ c3 ∧ (∀ x ∈ m, x.size ≤ 200) ∧ wr.ownsRow w7.heap.size 9 1 (.slice A3 (j + 1) c3) (j + 1) (sC m) ∧ Below w7.heap.size w7 wr) (fun _ kv _ => gl.length - (intOf kv).toNat)
                      case atStart => exact ⟨k, m ++ [g], A4, c4, Nat.le_refl _, by omega, rfl, rfl, hc9, HMS9.out, by have h := HO9.out; rw [sC_snoc] at h; exact h, HB9.out⟩
                      case round =>
                        obtain ⟨j, m, A3, c3, hkj, hj, rfl, rfl, hkc, hms, ho3, hb3⟩ := hrel
                        have HO3 := hide ho3
                        have HB3 := hide hb3
                        have HMS := hide hms
                        have hsz := hb3.size
                        clear ho3 hb3 hms
                        by_cases hlj : j < gl.length
                        · obtain ⟨hblt3, hl3, hcell3⟩ := (hRY.out.below HB3.out (Nat.le_refl _)).strAt (k := j) (by omega)
                          have HSM := hide (HGS.out _ (List.getElem_mem hl3))
                          go_wp2_with (at_builtin; refine wpList_push wr rfl (.tmp 89) (.tmp 94) 58 rfl w7.heap.size 9 _ 1 16 Tryd.underlying58 info_s rfl (by omega) A3 (j + 1) c3 _ [.string gl[j]] rfl HO3.out rfl rfl (by simp [Value.oneCell']) (by omega) (by omega) hsz ?_; intro A4 c4 w9 hc9 hown9 hg9 _)
                          first | (exfalso; omega) | exact ⟨⟨j + 1, m ++ [gl[j]], A4, c4, by omega, by omega, by go_num, rfl, hc9, fun x hx => by
                            rcases List.mem_append.1 hx with hx | hx
                            · exact HMS.out x hx
                            · rw [List.mem_singleton.1 hx]; exact HSM.out, by rw [sC_snoc] at hown9; exact hown9, HB3.out.trans (grown_below HO3.out hg9 hsz)⟩, by simp [intOf]; omega⟩
                        · have hjl : j = gl.length := by omega
                          subst hjl
                          go_wp2_with fail
                          have hml : m.length = gl.length + 1 := by have := HO3.out.1; rw [sC_length] at this; omega
                          obtain ⟨b9, rfl, _⟩ := own_some HO3.out (by omega)
                          refine ⟨⟨i + 1, m, b9, c3, by omega, .inr (by omega), by go_num, by rw [hml], by omega, by omega, HMS.out, ?_, HCY.out.below' HB3.out HLT, HTY.out.grow HB3.out HTY.out.size⟩, by simp [intOf]; omega⟩
                          rw [hml]
                          exact own_mono HO3.out (by have := HTY.out.size; simp at this; omega)
            · go_wp2_with fail
              exact ⟨⟨a + 1, by omega, by go_num⟩, by simp [intOf]; omega⟩
          · skip
            have HOY := HO5
            have HCY := HC5
            have HTY := HT5
            have HLT := HCY.out.lt
            have hRY := hide (own_rd HOY.out)
            go_wp2_with fail
            go_loopw [10, 11] (fun nv kv wr => ∃ (k : Nat) (m : List ByteArray) (A3 : Option Addr) (c3 : Nat), k ≤ a ∧ kv = .int .i64 (k : Int) ∧ nv = .slice A3 k c3 ∧ k ≤ c3 ∧ (∀ x ∈ m, x.size ≤ 200) ∧ wr.ownsRow w5.heap.size 9 1 (.slice A3 k c3) k (sC m) ∧ Below w5.heap.size w5 wr) (fun _ kv _ => a - (intOf kv).toNat)
            case atStart => exact ⟨0, [], _, _, by omega, rfl, rfl, Nat.le_refl _, by simp, World.ownsRow_made w5 #[] 0 (Nat.le_refl _) (by omega) rfl, (by repeat (first | with_reducible exact Below.refl _ _ | with_reducible assumption | refine Below.alloc ?_ (by first | omega | (simp; done) | (simp; omega)) _ | refine Below.setCell ?_ (by first | omega | (simp; done) | (simp; omega)) _ | refine Below.drew ?_ | refine below_drewN ?_ _ | exact Below.refl _ _ | assumption))⟩
            case round =>
              obtain ⟨k, m, A3, c3, hk, rfl, rfl, hkc, hms, ho3, hb3⟩ := hrel
              have HO3 := hide ho3
              have HB3 := hide hb3
              have HMS := hide hms
              have hsz := hb3.size
              clear ho3 hb3 hms
              by_cases hlk : k < a
              · obtain ⟨hblt3, hl3, hcell3⟩ := (hRY.out.below HB3.out (Nat.le_refl _)).strAt (k := k) (by omega)
                have HSM := hide (HGS.out _ (List.getElem_mem hl3))
                go_wp2_with (at_builtin; refine wpList_push wr rfl (.tmp 71) (.tmp 76) 58 rfl w5.heap.size 9 _ 1 16 Tryd.underlying58 info_s rfl (by omega) A3 (k) c3 _ [.string gl[k]] rfl HO3.out rfl rfl (by simp [Value.oneCell']) (by omega) (by omega) hsz ?_; intro A4 c4 w9 hc9 hown9 hg9 _)
                exact ⟨⟨k + 1, m ++ [gl[k]], A4, c4, by omega, by go_num, rfl, hc9, fun x hx => by
                  rcases List.mem_append.1 hx with hx | hx
                  · exact HMS.out x hx
                  · rw [List.mem_singleton.1 hx]; exact HSM.out, by rw [sC_snoc] at hown9; exact hown9, HB3.out.trans (grown_below HO3.out hg9 hsz)⟩, by simp [intOf]; omega⟩
              · have hka : k = a := by omega
                subst hka
                go_wp2_with (at_builtin; refine wpList_push wr rfl (.tmp 78) (.tmp 80) 58 rfl w5.heap.size 9 _ 1 16 Tryd.underlying58 info_s rfl (by omega) A3 (k) c3 _ [.string g] rfl HO3.out rfl rfl (by simp [Value.oneCell']) (by omega) (by omega) hsz ?_; intro A4 c4 w9 hc9 hown9 hg9 _)
                have HO9 := hide hown9
                have HB9 := hide (HB3.out.trans (grown_below HO3.out hg9 hsz))
                have HMS9 : Hid (∀ x ∈ m ++ [g], x.size ≤ 200) := fun x hx => by
                  rcases List.mem_append.1 hx with hx | hx
                  · exact HMS.out x hx
                  · rw [List.mem_singleton.1 hx]; exact HGZ.out
                clear hown9 hg9 HO3 HB3 HMS
                go_wp2_with fail
                go_loopw [10, 12] (fun nv kv wr => ∃ (j : Nat) (m : List ByteArray) (A3 : Option Addr) (c3 : Nat), k ≤ j ∧ j ≤ gl.length ∧ kv = .int .i64 (j : Int) ∧ nv = .slice A3 (j + 1) c3 ∧ j + 1 ≤ c3 ∧ (∀ x ∈ m, x.size ≤ 200) ∧ wr.ownsRow w5.heap.size 9 1 (.slice A3 (j + 1) c3) (j + 1) (sC m) ∧ Below w5.heap.size w5 wr) (fun _ kv _ => gl.length - (intOf kv).toNat)
                case atStart => exact ⟨k, m ++ [g], A4, c4, Nat.le_refl _, by omega, rfl, rfl, hc9, HMS9.out, by have h := HO9.out; rw [sC_snoc] at h; exact h, HB9.out⟩
                case round =>
                  obtain ⟨j, m, A3, c3, hkj, hj, rfl, rfl, hkc, hms, ho3, hb3⟩ := hrel
                  have HO3 := hide ho3
                  have HB3 := hide hb3
                  have HMS := hide hms
                  have hsz := hb3.size
                  clear ho3 hb3 hms
                  by_cases hlj : j < gl.length
                  · obtain ⟨hblt3, hl3, hcell3⟩ := (hRY.out.below HB3.out (Nat.le_refl _)).strAt (k := j) (by omega)
                    have HSM := hide (HGS.out _ (List.getElem_mem hl3))
                    go_wp2_with (at_builtin; refine wpList_push wr rfl (.tmp 89) (.tmp 94) 58 rfl w5.heap.size 9 _ 1 16 Tryd.underlying58 info_s rfl (by omega) A3 (j + 1) c3 _ [.string gl[j]] rfl HO3.out rfl rfl (by simp [Value.oneCell']) (by omega) (by omega) hsz ?_; intro A4 c4 w9 hc9 hown9 hg9 _)
                    first | (exfalso; omega) | exact ⟨⟨j + 1, m ++ [gl[j]], A4, c4, by omega, by omega, by go_num, rfl, hc9, fun x hx => by
                      rcases List.mem_append.1 hx with hx | hx
                      · exact HMS.out x hx
                      · rw [List.mem_singleton.1 hx]; exact HSM.out, by rw [sC_snoc] at hown9; exact hown9, HB3.out.trans (grown_below HO3.out hg9 hsz)⟩, by simp [intOf]; omega⟩
                  · have hjl : j = gl.length := by omega
                    subst hjl
                    go_wp2_with fail
                    have hml : m.length = gl.length + 1 := by have := HO3.out.1; rw [sC_length] at this; omega
                    obtain ⟨b9, rfl, _⟩ := own_some HO3.out (by omega)
                    refine ⟨⟨i + 1, m, b9, c3, by omega, .inr (by omega), by go_num, by rw [hml], by omega, by omega, HMS.out, ?_, HCY.out.below' HB3.out HLT, HTY.out.grow HB3.out HTY.out.size⟩, by simp [intOf]; omega⟩
                    rw [hml]
                    exact own_mono HO3.out (by have := HTY.out.size; simp at this; omega)
    · obtain ⟨wq, rfl⟩ : ∃ wq, wq = wr := ⟨_, rfl⟩
      have HP : Hid (Blk wq w2.heap.size 26 #[.string nm, .slice none 0 0]) := HTr.out.blk (Blk.new w2 _ _) (by have := HBP.out; omega)
      have HR : Hid (Blk wq w.heap.size 26 #[.string ⟨#[]⟩, .slice none 0 0]) := HTr.out.blk (HR2.out.alloc _) (by omega)
      have HT00 : Hid (Tch B (B + 1) w wq) := HTr.out.to_tch (HM2.out.grow (b := w2.heap.size) (by repeat (first | with_reducible exact Below.refl _ _ | with_reducible assumption | refine Below.alloc ?_ (by first | omega | (simp; done) | (simp; omega)) _ | refine Below.setCell ?_ (by first | omega | (simp; done) | (simp; omega)) _ | refine Below.drew ?_ | refine below_drewN ?_ _ | exact Below.refl _ _ | assumption)) (by omega)) (fun x hx => .inl hx)
      have hsP : w2.heap.size + 1 ≤ wq.heap.size := by have := HTr.out.size; simpa using this
      obtain ⟨hbg, hbg2⟩ := own_base HOr.out
      have HRD := hide (own_rd HOr.out)
      go_wp2_with fail
      go_loopw [13] (fun iv wr => ∃ (k : Nat) (rs : List Rl) (A3 : Option Addr) (c3 : Nat), k ≤ gl.length ∧ iv = .int .i64 (k : Int) ∧ k ≤ c3 ∧ (∀ r ∈ rs, r.1.size ≤ 200) ∧ wr.ownsRow wq.heap.size 53 2 (.slice A3 k c3) k (rC rs) ∧
        Blk wr w2.heap.size 26 #[.string nm, .slice A3 k c3] ∧ Cur wr base B ∧ Tc (fun x => x = B ∨ x = w2.heap.size) wq wr) (fun iv _ => gl.length - (intOf iv).toNat)
      case atStart => exact ⟨0, [], none, 0, by omega, rfl, Nat.le_refl _, by simp, World.ownsRow_nil _ _ _ _, HP.out, HCr.out, Tc.refl _ _⟩
      case round =>
        obtain ⟨k, rs, A3, c3, hk, rfl, hkc, hrs, ho3, hp3, hc3, ht3⟩ := hrel
        have HO3 := hide ho3
        have HP3 := hide hp3
        have HC3 := hide hc3
        have HT3 := hide ht3
        have HRS := hide hrs
        have hsx := ht3.size
        clear ho3 hc3 ht3 hrs
        by_cases hlk : k < gl.length
        · obtain ⟨_, hl3, hcell0⟩ := HRD.out.strAt hlk
          have HSM := hide (HGS.out _ (List.getElem_mem hl3))
          have hcell3 : wr.cell? ⟨bg, k, none⟩ = some (.string gl[k]) := (World.cell?_of_block (HT3.out.block bg hbg2 (by omega))).trans hcell0
          have q1 : wr.cell? ⟨w2.heap.size, 1, none⟩ = some (.slice A3 k c3) := hp3.cell 1
          have hlx := hp3.lt
          have hbx : bg < wr.heap.size := by omega
          have hBP := HBP.out
          clear hcell0 hp3
          go_wp2_with fail
          go_region_law (first | (refine step_push w5 (by rfl) (.tmp 104) (.tmp 112) 24 (by rfl) wq.heap.size 53 (.agg #[.string ⟨#[]⟩, .int .i64 0]) 2 24 Tryd.underlying24 info_r rfl (by omega) A3 k c3 _ [.string gl[k], .int .i64 x] (by rfl) HO5.out (by rfl) rfl (by simp [Value.oneCell']) (by omega) (by omega) (by omega) ?_; intro A4 c4 w9 hc9 hown9 hg9 _; have hb9 : Below wq.heap.size w5 w9 := grown_below HO5.out hg9 (by omega); have q9 := cell_oldB hq5 hb9 (by omega); have g9 := cell_oldB hg5 hb9 (by omega); have HP9 := HP5.below hb9 (by omega); have cz := HP9.cell; have fz := HP9.frozen) | (go_simp; go_at_call 76; refine (l02DrawCaps_c base B wr.drew (show Cur wr.drew base B from HC3.out)).mono ?_; rintro e w5 ⟨x, hx, rfl, hc5, hm50⟩; have hm5 : Tch B (B + 1) wr w5 := ⟨hm50.os, hm50.tape, hm50.output, hm50.size, hm50.block⟩; have hq5 := hm5.cell q1 hlx (by omega); have hg5 := hm5.cell hcell3 hbx (by omega); have HO5 := hide (own_tch HO3.out hm5 (by omega)); have hsz5 := hm5.size; have HP5 : Blk w5 w2.heap.size 26 #[.string nm, .slice A3 k c3] := (hm5.block _ hlx (by omega)).trans HP3.out; have hl5 := HP5.lt; have hb5 : bg < w5.heap.size := (by omega); have qa := cell_al hq5 hl5 (.cells #[.string gl[k], .int .i64 x] 53)))
          all_goals
            have HC5 := hide hc5
            have HM5 := hide hm5
            have HB9 := hide hb9
            have HO9 := hide hown9
            clear hc5 hm5 hm50 hb9 hown9 hg9 q9 g9 cz fz hq5 hg5 qa
            go_wp2_with fail
            exact ⟨⟨k + 1, rs ++ [(gl[k], x)], A4, c4, by omega, by go_num, hc9, fun r hr => by
              rcases List.mem_append.1 hr with hr | hr
              · exact HRS.out r hr
              · rw [List.mem_singleton.1 hr]; exact HSM.out, by rw [rC_append]; exact ownsRow_setCell_below HO9.out (by show w2.heap.size < wq.heap.size; omega) _, HP9.set' 1 _, (HC5.out.below' HB9.out (by omega)).set (by show B < w2.heap.size; omega) _, ((HT3.out.tch HM5.out (.inl rfl)).grow HB9.out (Nat.le_refl _)).set (.inl (.inr rfl)) _⟩, by simp [intOf]; omega⟩
        · have hBP := HBP.out
          go_wp2_with fail
          refine (l01Once_c 25 base B _ HC3.out (by omega)).mono ?_
          rintro e w5 ⟨b5, rfl, hc5, hm5⟩
          have HCX := hide hc5
          have HTX := hide (HT3.out.tch hm5 (.inl rfl))
          have HOX := hide (own_tch HO3.out hm5 (by omega))
          have hpx : Blk w5 w2.heap.size 26 #[.string nm, .slice A3 k c3] := (hm5.block _ hp3.lt (by omega)).trans HP3.out
          clear hc5 hm5 hp3
          cases b5
          · have HPX := hide hpx
            clear hpx
            go_wp2_with fail
            refine (l01Once_c 25 base B _ HCX.out (by omega)).mono ?_
            rintro e w10 ⟨b10, rfl, hc10, hm10⟩
            have hp10 : Blk w10 w2.heap.size 26 #[.string nm, .slice A3 k c3] := (hm10.block _ HPX.out.lt (by omega)).trans HPX.out
            have HC10 := hide hc10
            have HT10 := hide (HTX.out.tch hm10 (.inl rfl))
            have HO10 := hide (own_tch HOX.out hm10 (by omega))
            have HP10 := hide hp10
            clear HPX HCX HTX HOX hc10 hm10
            have HCX := HC10
            have HTX := HT10
            have HOX := HO10
            have HPX := HP10
            clear HC10 HT10 HO10 HP10
            cases b10
            · clear hp10
              have HR9 := HTX.out.blk HR.out (by show ¬ (w.heap.size = B ∨ w.heap.size = w2.heap.size); omega)
              have hl9 := HR9.lt
              have qR := HR9.cell
              have fR := HR9.frozen
              have qP := HPX.out.cell
              have HR10 := hide ((HR9.set' 0 (.string nm)).set' 1 (.slice A3 k c3))
              have HT0 := hide (HTX.out.to_tch HT00.out (by intro x hx; rcases hx with hx | hx; exact .inl hx; right; omega))
              clear HR9
              go_wp2_with fail
              have qS : ∀ i, ((w10.setCell ⟨w.heap.size, 0, none⟩ (.string nm)).setCell ⟨w.heap.size, 1, none⟩ (.slice A3 k c3)).cell? ⟨w.heap.size, i, none⟩ = (#[.string nm, .slice A3 k c3] : Array Value)[i]? := HR10.out.cell
              refine bodyPost_ret (v := .agg #[.string nm, .slice A3 k c3]) (by simp [results, Tryd.results50, go_sem, qS]) rfl ?_
              exact ⟨nm, A3, k, c3, rs, HNM.out, by omega, hkc, HRS.out, rfl, own_mono (ownsRow_setCell_below (ownsRow_setCell_below HOX.out (by show w.heap.size < wq.heap.size; omega) _) (by show w.heap.size < wq.heap.size; omega) _) (by omega), (HCX.out.set (by show B < w.heap.size; omega) _).set (by show B < w.heap.size; omega) _, (HT0.out.setNew (Nat.le_refl _) _).setNew (Nat.le_refl _) _⟩
            · by_cases hk0 : 0 < k
              · obtain ⟨g3, rfl, hg3⟩ := own_some HOX.out hk0
                have hlg := (own_base HOX.out).2
                have q1 : w10.cell? ⟨w2.heap.size, 1, none⟩ = some (.slice (some ⟨g3, 0, none⟩) k c3) := hp10.cell 1
                have hlp := hp10.lt
                clear hp10
                have HCA : Hid (Cur (w10.alloc (.cells #[.int .i64 (-1), .int .i64 64] 3)) base B) := HCX.out.below (by repeat (first | with_reducible exact Below.refl _ _ | with_reducible assumption | refine Below.alloc ?_ (by first | omega | (simp; done) | (simp; omega)) _ | refine Below.setCell ?_ (by first | omega | (simp; done) | (simp; omega)) _ | refine Below.drew ?_ | refine below_drewN ?_ _ | exact Below.refl _ _ | assumption))
                have HRA : Hid (Rd (w10.alloc (.cells #[.int .i64 (-1), .int .i64 64] 3)) (w10.heap.size + 1) 1 (some ⟨w10.heap.size, 0, none⟩) 2 (iC [-1, 64])) := (Ow.made w10 #[.int .i64 (-1), .int .i64 64] 3 2 1 rfl (by omega)).rd
                have qA := cell_al q1 hlp (.cells #[.int .i64 (-1), .int .i64 64] 3)
                have hlB := HCX.out.lt
                go_wp2_with fail
                go_region_held3 (fun w' => w'.cell? ⟨w2.heap.size, 1, none⟩ = some (.slice (some ⟨g3, 0, none⟩) k c3)) (first | exact q1 | exact qA | exact q11 | exact cell_al q11 hl11 _ | exact q11b | exact q12 | exact q13) (first | (go_at_call 51; refine (l01Below_c (k : Int) base B w10.drew (show Cur w10.drew base B from HCX.out) (by omega)).mono ?_; rintro e w11 ⟨r, ⟨r0, _, r1⟩, rfl, hc11, hm110⟩; have hm11 : Tch B (B + 1) w10 w11 := ⟨hm110.os, hm110.tape, hm110.output, hm110.size, hm110.block⟩; obtain ⟨j, rfl⟩ := Int.eq_ofNat_of_zero_le r0; have hj : j < k := (by omega); clear r0 r1; have q11 := hm11.cell q1 hlp (by omega); have hl11 := Nat.lt_of_lt_of_le hlp hm11.size; have hs11 := hm11.size; have hC11 := hide (hc11.below (w' := w11.alloc (.cells #[.int .i64 (-1), .int .i64 64] 3)) (by repeat (first | with_reducible exact Below.refl _ _ | with_reducible assumption | refine Below.alloc ?_ (by first | omega | (simp; done) | (simp; omega)) _ | refine Below.setCell ?_ (by first | omega | (simp; done) | (simp; omega)) _ | refine Below.drew ?_ | refine below_drewN ?_ _ | exact Below.refl _ _ | assumption))); have hR11 : Hid (Rd (w11.alloc (.cells #[.int .i64 (-1), .int .i64 64] 3)) (w11.heap.size + 1) 1 (some ⟨w11.heap.size, 0, none⟩) 2 (iC [-1, 64])) := (Ow.made w11 #[.int .i64 (-1), .int .i64 64] 3 2 1 rfl (by omega)).rd; have hlt11 := hc11.lt; have HT11 := hide ((HTX.out.tch hm11 (.inl rfl)).alloc (.cells #[.int .i64 (-1), .int .i64 64] 3)); have HO11 := hide ((own_tch HOX.out hm11 (by omega)).alloc (.cells #[.int .i64 (-1), .int .i64 64] 3)); have HP11 : Hid (Blk (w11.alloc (.cells #[.int .i64 (-1), .int .i64 64] 3)) w2.heap.size 26 #[.string nm, .slice (some ⟨g3, 0, none⟩) k c3]) := (show Blk w11 w2.heap.size 26 #[.string nm, .slice (some ⟨g3, 0, none⟩) k c3] from (hm11.block _ hlp (by omega)).trans HPX.out).alloc _) | (go_at_call 77; refine (l01PickInt_c w11.heap.size 2 2 [-1, 64] base B _ hC11.out (hR11.out.mono (by simp)) (by simp) (by omega) (by omega) (by omega)).mono ?_; rintro e w12 ⟨x, hx, rfl, hc12, hm12⟩; have HC12 := hide hc12; have HT12 := hide (HT11.out.tch hm12 (.inl rfl)); have HO12 := hide (own_tch HO11.out hm12 (by omega)); have HP12 : Hid (Blk w12 w2.heap.size 26 #[.string nm, .slice (some ⟨g3, 0, none⟩) k c3]) := (hm12.block _ HP11.out.lt (by omega)).trans HP11.out; have q12 : w12.cell? ⟨w2.heap.size, 1, none⟩ = some (.slice (some ⟨g3, 0, none⟩) k c3) := HP12.out.cell 1; have h12f := HO12.out.frozenAt; obtain ⟨v12, hv12⟩ := own_cell HO12.out (j := j * 2 + 1) (by omega); have HS12 := hide (HO12.out.stored (j * 2 + 1) (.int .i64 x)).1; have HP13 : Hid (Blk (w12.setCell ⟨g3, j * 2 + 1, none⟩ (.int .i64 x)) w2.heap.size 26 #[.string nm, .slice (some ⟨g3, 0, none⟩) k c3]) := HP12.out.far (by show w2.heap.size ≠ g3; omega) _; have q13 : (w12.setCell ⟨g3, j * 2 + 1, none⟩ (.int .i64 x)).cell? ⟨w2.heap.size, 1, none⟩ = some (.slice (some ⟨g3, 0, none⟩) k c3) := HP13.out.cell 1) | (go_at_call 51; refine (l01Below_c (k : Int) base B (w10.alloc (.cells #[.int .i64 (-1), .int .i64 64] 3)).drew (show Cur (w10.alloc (.cells #[.int .i64 (-1), .int .i64 64] 3)).drew base B from HCA.out) (by omega)).mono ?_; rintro e w11b ⟨r, ⟨r0, _, r1⟩, rfl, hC11b, hm110⟩; have hm11 : Tch B (B + 1) (w10.alloc (.cells #[.int .i64 (-1), .int .i64 64] 3)) w11b := ⟨hm110.os, hm110.tape, hm110.output, hm110.size, hm110.block⟩; obtain ⟨j, rfl⟩ := Int.eq_ofNat_of_zero_le r0; have hj : j < k := (by omega); clear r0 r1; have hzA : (w10.alloc (.cells #[.int .i64 (-1), .int .i64 64] 3)).heap.size = w10.heap.size + 1 := (by simp); have q11b := hm11.cell qA (by omega) (by omega); have hs11 := hm11.size; have hR11b := hide (HRA.out.keepb (hm11.block w10.heap.size (by omega) (by omega))); have HT11 := hide ((HTX.out.alloc (.cells #[.int .i64 (-1), .int .i64 64] 3)).tch hm11 (.inl rfl)); have HO11 := hide (own_tch (HOX.out.alloc (.cells #[.int .i64 (-1), .int .i64 64] 3)) hm11 (by omega)); have HP11 : Hid (Blk w11b w2.heap.size 26 #[.string nm, .slice (some ⟨g3, 0, none⟩) k c3]) := (hm11.block _ (by omega) (by omega)).trans (HPX.out.alloc (.cells #[.int .i64 (-1), .int .i64 64] 3))) | (go_at_call 77; refine (l01PickInt_c w10.heap.size 2 2 [-1, 64] base B w11b hC11b (hR11b.out.mono (by omega)) (by omega) (by omega) (by omega) (by omega)).mono ?_; rintro e w12 ⟨x, hx, rfl, hc12, hm12⟩; have HC12 := hide hc12; have HT12 := hide (HT11.out.tch hm12 (.inl rfl)); have HO12 := hide (own_tch HO11.out hm12 (by omega)); have HP12 : Hid (Blk w12 w2.heap.size 26 #[.string nm, .slice (some ⟨g3, 0, none⟩) k c3]) := (hm12.block _ HP11.out.lt (by omega)).trans HP11.out; have q12 : w12.cell? ⟨w2.heap.size, 1, none⟩ = some (.slice (some ⟨g3, 0, none⟩) k c3) := HP12.out.cell 1; have h12f := HO12.out.frozenAt; obtain ⟨v12, hv12⟩ := own_cell HO12.out (j := j * 2 + 1) (by omega); have HS12 := hide (HO12.out.stored (j * 2 + 1) (.int .i64 x)).1; have HP13 : Hid (Blk (w12.setCell ⟨g3, j * 2 + 1, none⟩ (.int .i64 x)) w2.heap.size 26 #[.string nm, .slice (some ⟨g3, 0, none⟩) k c3]) := HP12.out.far (by show w2.heap.size ≠ g3; omega) _; have q13 : (w12.setCell ⟨g3, j * 2 + 1, none⟩ (.int .i64 x)).cell? ⟨w2.heap.size, 1, none⟩ = some (.slice (some ⟨g3, 0, none⟩) k c3) := HP13.out.cell 1) | fail)
                all_goals
                  have hlr : rs.length = k := by have := HO12.out.1; rw [rC_length] at this; omega
                  have HRS2 : Hid (∀ r ∈ rs.set j ((rs[j]'(by omega)).1, x), r.1.size ≤ 200) := by
                    intro r hr
                    rcases List.mem_or_eq_of_mem_set hr with hr | hr
                    · exact HRS.out r hr
                    · rw [hr]; exact HRS.out (rs[j]'(by omega)) (List.getElem_mem (by omega))
                  rw [rC_setc (show j < rs.length by omega)] at HS12
                  have HCX := hide (HC12.out.set (p := ⟨g3, j * 2 + 1, none⟩) (by show B < g3; omega) (.int .i64 x))
                  have HTX := hide (HT12.out.set (p := ⟨g3, j * 2 + 1, none⟩) (.inr hg3) (.int .i64 x))
                  have HPX := HP13
                  have HOX := HS12
                  generalize rs.set j ((rs[j]'(by omega)).1, x) = rs2 at HRS2 HOX
                  go_upto_region 31 with fail
                  generalize w12.setCell ⟨g3, j * 2 + 1, none⟩ (.int .i64 x) = w13 at HCX HTX HPX HOX ⊢
                  clear HS12 HP13 h12f hv12 q12 q13 qA q1 HCA HRA HC12 HT12 HO12 HP12 HT11 HO11 HP11
                  have HR9 := HTX.out.blk HR.out (by show ¬ (w.heap.size = B ∨ w.heap.size = w2.heap.size); omega)
                  have hl9 := HR9.lt
                  have qR := HR9.cell
                  have fR := HR9.frozen
                  have qP := HPX.out.cell
                  have HR10 := hide ((HR9.set' 0 (.string nm)).set' 1 (.slice (some ⟨g3, 0, none⟩) k c3))
                  have HT0 := hide (HTX.out.to_tch HT00.out (by intro x hx; rcases hx with hx | hx; exact .inl hx; right; omega))
                  clear HR9
                  go_wp2_with fail
                  have qS : ∀ i, ((w13.setCell ⟨w.heap.size, 0, none⟩ (.string nm)).setCell ⟨w.heap.size, 1, none⟩ (.slice (some ⟨g3, 0, none⟩) k c3)).cell? ⟨w.heap.size, i, none⟩ = (#[.string nm, .slice (some ⟨g3, 0, none⟩) k c3] : Array Value)[i]? := HR10.out.cell
                  refine bodyPost_ret (v := .agg #[.string nm, .slice (some ⟨g3, 0, none⟩) k c3]) (by simp [results, Tryd.results50, go_sem, qS]) rfl ?_
                  exact ⟨nm, (some ⟨g3, 0, none⟩), k, c3, rs2, HNM.out, by omega, hkc, HRS2.out, rfl, own_mono (ownsRow_setCell_below (ownsRow_setCell_below HOX.out (by show w.heap.size < wq.heap.size; omega) _) (by show w.heap.size < wq.heap.size; omega) _) (by omega), (HCX.out.set (by show B < w.heap.size; omega) _).set (by show B < w.heap.size; omega) _, (HT0.out.setNew (Nat.le_refl _) _).setNew (Nat.le_refl _) _⟩
              · clear hp10
                have HR9 := HTX.out.blk HR.out (by show ¬ (w.heap.size = B ∨ w.heap.size = w2.heap.size); omega)
                have hl9 := HR9.lt
                have qR := HR9.cell
                have fR := HR9.frozen
                have qP := HPX.out.cell
                have HR10 := hide ((HR9.set' 0 (.string nm)).set' 1 (.slice A3 k c3))
                have HT0 := hide (HTX.out.to_tch HT00.out (by intro x hx; rcases hx with hx | hx; exact .inl hx; right; omega))
                clear HR9
                go_wp2_with fail
                have qS : ∀ i, ((w10.setCell ⟨w.heap.size, 0, none⟩ (.string nm)).setCell ⟨w.heap.size, 1, none⟩ (.slice A3 k c3)).cell? ⟨w.heap.size, i, none⟩ = (#[.string nm, .slice A3 k c3] : Array Value)[i]? := HR10.out.cell
                refine bodyPost_ret (v := .agg #[.string nm, .slice A3 k c3]) (by simp [results, Tryd.results50, go_sem, qS]) rfl ?_
                exact ⟨nm, A3, k, c3, rs, HNM.out, by omega, hkc, HRS.out, rfl, own_mono (ownsRow_setCell_below (ownsRow_setCell_below HOX.out (by show w.heap.size < wq.heap.size; omega) _) (by show w.heap.size < wq.heap.size; omega) _) (by omega), (HCX.out.set (by show B < w.heap.size; omega) _).set (by show B < w.heap.size; omega) _, (HT0.out.setNew (Nat.le_refl _) _).setNew (Nat.le_refl _) _⟩
          · have hbq : Below w5.heap.size w5 (w5.alloc (.cells #[.string ⟨#[]⟩, .string ⟨#[79, 112, 115]⟩, .string ⟨#[97, 98, 99, 100, 101, 102, 103, 104, 105, 106, 107, 108, 109]⟩] 9)) := (by repeat (first | with_reducible exact Below.refl _ _ | with_reducible assumption | refine Below.alloc ?_ (by first | omega | (simp; done) | (simp; omega)) _ | refine Below.setCell ?_ (by first | omega | (simp; done) | (simp; omega)) _ | refine Below.drew ?_ | refine below_drewN ?_ _ | exact Below.refl _ _ | assumption))
            have hrd : Rd (w5.alloc (.cells #[.string ⟨#[]⟩, .string ⟨#[79, 112, 115]⟩, .string ⟨#[97, 98, 99, 100, 101, 102, 103, 104, 105, 106, 107, 108, 109]⟩] 9)) (w5.heap.size + 1) 1 (some ⟨w5.heap.size, 0, none⟩) 3 (sC [⟨#[]⟩, ⟨#[79, 112, 115]⟩, ⟨#[97, 98, 99, 100, 101, 102, 103, 104, 105, 106, 107, 108, 109]⟩]) := (Ow.made w5 #[.string ⟨#[]⟩, .string ⟨#[79, 112, 115]⟩, .string ⟨#[97, 98, 99, 100, 101, 102, 103, 104, 105, 106, 107, 108, 109]⟩] 9 3 1 rfl (by omega)).rd
            have hne : w5.heap.size ≠ B := by have := HCX.out.lt; omega
            have CP := hide (l01PickText_c w5.heap.size 3 3 [⟨#[]⟩, ⟨#[79, 112, 115]⟩, ⟨#[97, 98, 99, 100, 101, 102, 103, 104, 105, 106, 107, 108, 109]⟩] 13 base B _ (HCX.out.below hbq) (hrd.mono (by simp)) (by simp) hne (by omega) (by omega) (by decide))
            have hp5 := hpx.below hbq hpx.lt
            clear hrd hne
            have HBQ := hide hbq
            clear hbq
            go_wp2_with fail
            refine CP.out.mono ?_
            rintro e w6 ⟨nm2, hn2, rfl, hc6, hm6⟩
            have hp6 : Blk w6 w2.heap.size 26 #[.string nm, .slice A3 k c3] := (hm6.block _ hp5.lt (by omega)).trans hp5
            have HN2 := hide hn2
            have HT6 := hide (((HTX.out.alloc _).tch hm6 (.inl rfl)).set (p := ⟨w2.heap.size, 0, none⟩) (.inl (.inr rfl)) (.string nm2))
            have HO6 := hide (ownsRow_setCell_below (own_tch (own_below HOX.out HBQ.out) hm6 (by omega)) (a := ⟨w2.heap.size, 0, none⟩) (by show w2.heap.size < wq.heap.size; omega) (.string nm2))
            have HC6 := hide (hc6.set (p := ⟨w2.heap.size, 0, none⟩) (by show B < w2.heap.size; omega) (.string nm2))
            have HP6 : Hid (Blk (w6.setCell ⟨w2.heap.size, 0, none⟩ (.string nm2)) w2.heap.size 26 #[.string nm2, .slice A3 k c3]) := hp6.set' 0 _
            have q6 := hp6.cell
            have f6 := hp6.frozen
            clear hp5 hp6 hpx hm6 hn2 hc6 CP HCX HTX HOX HBQ
            go_upto_region 29 with fail
            generalize w6.setCell ⟨w2.heap.size, 0, none⟩ (.string nm2) = w7 at HT6 HO6 HC6 HP6 ⊢
            clear q6 f6
            have HCX := HC6
            have HTX := HT6
            have HOX := HO6
            have HPX := HP6
            clear HC6 HT6 HO6 HP6
            go_wp2_with fail
            refine (l01Once_c 25 base B _ HCX.out (by omega)).mono ?_
            rintro e w10 ⟨b10, rfl, hc10, hm10⟩
            have hp10 : Blk w10 w2.heap.size 26 #[.string nm2, .slice A3 k c3] := (hm10.block _ HPX.out.lt (by omega)).trans HPX.out
            have HC10 := hide hc10
            have HT10 := hide (HTX.out.tch hm10 (.inl rfl))
            have HO10 := hide (own_tch HOX.out hm10 (by omega))
            have HP10 := hide hp10
            clear HPX HCX HTX HOX hc10 hm10
            have HCX := HC10
            have HTX := HT10
            have HOX := HO10
            have HPX := HP10
            clear HC10 HT10 HO10 HP10
            cases b10
            · clear hp10
              have HR9 := HTX.out.blk HR.out (by show ¬ (w.heap.size = B ∨ w.heap.size = w2.heap.size); omega)
              have hl9 := HR9.lt
              have qR := HR9.cell
              have fR := HR9.frozen
              have qP := HPX.out.cell
              have HR10 := hide ((HR9.set' 0 (.string nm2)).set' 1 (.slice A3 k c3))
              have HT0 := hide (HTX.out.to_tch HT00.out (by intro x hx; rcases hx with hx | hx; exact .inl hx; right; omega))
              clear HR9
              go_wp2_with fail
              have qS : ∀ i, ((w10.setCell ⟨w.heap.size, 0, none⟩ (.string nm2)).setCell ⟨w.heap.size, 1, none⟩ (.slice A3 k c3)).cell? ⟨w.heap.size, i, none⟩ = (#[.string nm2, .slice A3 k c3] : Array Value)[i]? := HR10.out.cell
              refine bodyPost_ret (v := .agg #[.string nm2, .slice A3 k c3]) (by simp [results, Tryd.results50, go_sem, qS]) rfl ?_
              exact ⟨nm2, A3, k, c3, rs, HN2.out, by omega, hkc, HRS.out, rfl, own_mono (ownsRow_setCell_below (ownsRow_setCell_below HOX.out (by show w.heap.size < wq.heap.size; omega) _) (by show w.heap.size < wq.heap.size; omega) _) (by omega), (HCX.out.set (by show B < w.heap.size; omega) _).set (by show B < w.heap.size; omega) _, (HT0.out.setNew (Nat.le_refl _) _).setNew (Nat.le_refl _) _⟩
            · by_cases hk0 : 0 < k
              · obtain ⟨g3, rfl, hg3⟩ := own_some HOX.out hk0
                have hlg := (own_base HOX.out).2
                have q1 : w10.cell? ⟨w2.heap.size, 1, none⟩ = some (.slice (some ⟨g3, 0, none⟩) k c3) := hp10.cell 1
                have hlp := hp10.lt
                clear hp10
                have HCA : Hid (Cur (w10.alloc (.cells #[.int .i64 (-1), .int .i64 64] 3)) base B) := HCX.out.below (by repeat (first | with_reducible exact Below.refl _ _ | with_reducible assumption | refine Below.alloc ?_ (by first | omega | (simp; done) | (simp; omega)) _ | refine Below.setCell ?_ (by first | omega | (simp; done) | (simp; omega)) _ | refine Below.drew ?_ | refine below_drewN ?_ _ | exact Below.refl _ _ | assumption))
                have HRA : Hid (Rd (w10.alloc (.cells #[.int .i64 (-1), .int .i64 64] 3)) (w10.heap.size + 1) 1 (some ⟨w10.heap.size, 0, none⟩) 2 (iC [-1, 64])) := (Ow.made w10 #[.int .i64 (-1), .int .i64 64] 3 2 1 rfl (by omega)).rd
                have qA := cell_al q1 hlp (.cells #[.int .i64 (-1), .int .i64 64] 3)
                have hlB := HCX.out.lt
                go_wp2_with fail
                go_region_held3 (fun w' => w'.cell? ⟨w2.heap.size, 1, none⟩ = some (.slice (some ⟨g3, 0, none⟩) k c3)) (first | exact q1 | exact qA | exact q11 | exact cell_al q11 hl11 _ | exact q11b | exact q12 | exact q13) (first | (go_at_call 51; refine (l01Below_c (k : Int) base B w10.drew (show Cur w10.drew base B from HCX.out) (by omega)).mono ?_; rintro e w11 ⟨r, ⟨r0, _, r1⟩, rfl, hc11, hm110⟩; have hm11 : Tch B (B + 1) w10 w11 := ⟨hm110.os, hm110.tape, hm110.output, hm110.size, hm110.block⟩; obtain ⟨j, rfl⟩ := Int.eq_ofNat_of_zero_le r0; have hj : j < k := (by omega); clear r0 r1; have q11 := hm11.cell q1 hlp (by omega); have hl11 := Nat.lt_of_lt_of_le hlp hm11.size; have hs11 := hm11.size; have hC11 := hide (hc11.below (w' := w11.alloc (.cells #[.int .i64 (-1), .int .i64 64] 3)) (by repeat (first | with_reducible exact Below.refl _ _ | with_reducible assumption | refine Below.alloc ?_ (by first | omega | (simp; done) | (simp; omega)) _ | refine Below.setCell ?_ (by first | omega | (simp; done) | (simp; omega)) _ | refine Below.drew ?_ | refine below_drewN ?_ _ | exact Below.refl _ _ | assumption))); have hR11 : Hid (Rd (w11.alloc (.cells #[.int .i64 (-1), .int .i64 64] 3)) (w11.heap.size + 1) 1 (some ⟨w11.heap.size, 0, none⟩) 2 (iC [-1, 64])) := (Ow.made w11 #[.int .i64 (-1), .int .i64 64] 3 2 1 rfl (by omega)).rd; have hlt11 := hc11.lt; have HT11 := hide ((HTX.out.tch hm11 (.inl rfl)).alloc (.cells #[.int .i64 (-1), .int .i64 64] 3)); have HO11 := hide ((own_tch HOX.out hm11 (by omega)).alloc (.cells #[.int .i64 (-1), .int .i64 64] 3)); have HP11 : Hid (Blk (w11.alloc (.cells #[.int .i64 (-1), .int .i64 64] 3)) w2.heap.size 26 #[.string nm2, .slice (some ⟨g3, 0, none⟩) k c3]) := (show Blk w11 w2.heap.size 26 #[.string nm2, .slice (some ⟨g3, 0, none⟩) k c3] from (hm11.block _ hlp (by omega)).trans HPX.out).alloc _) | (go_at_call 77; refine (l01PickInt_c w11.heap.size 2 2 [-1, 64] base B _ hC11.out (hR11.out.mono (by simp)) (by simp) (by omega) (by omega) (by omega)).mono ?_; rintro e w12 ⟨x, hx, rfl, hc12, hm12⟩; have HC12 := hide hc12; have HT12 := hide (HT11.out.tch hm12 (.inl rfl)); have HO12 := hide (own_tch HO11.out hm12 (by omega)); have HP12 : Hid (Blk w12 w2.heap.size 26 #[.string nm2, .slice (some ⟨g3, 0, none⟩) k c3]) := (hm12.block _ HP11.out.lt (by omega)).trans HP11.out; have q12 : w12.cell? ⟨w2.heap.size, 1, none⟩ = some (.slice (some ⟨g3, 0, none⟩) k c3) := HP12.out.cell 1; have h12f := HO12.out.frozenAt; obtain ⟨v12, hv12⟩ := own_cell HO12.out (j := j * 2 + 1) (by omega); have HS12 := hide (HO12.out.stored (j * 2 + 1) (.int .i64 x)).1; have HP13 : Hid (Blk (w12.setCell ⟨g3, j * 2 + 1, none⟩ (.int .i64 x)) w2.heap.size 26 #[.string nm2, .slice (some ⟨g3, 0, none⟩) k c3]) := HP12.out.far (by show w2.heap.size ≠ g3; omega) _; have q13 : (w12.setCell ⟨g3, j * 2 + 1, none⟩ (.int .i64 x)).cell? ⟨w2.heap.size, 1, none⟩ = some (.slice (some ⟨g3, 0, none⟩) k c3) := HP13.out.cell 1) | (go_at_call 51; refine (l01Below_c (k : Int) base B (w10.alloc (.cells #[.int .i64 (-1), .int .i64 64] 3)).drew (show Cur (w10.alloc (.cells #[.int .i64 (-1), .int .i64 64] 3)).drew base B from HCA.out) (by omega)).mono ?_; rintro e w11b ⟨r, ⟨r0, _, r1⟩, rfl, hC11b, hm110⟩; have hm11 : Tch B (B + 1) (w10.alloc (.cells #[.int .i64 (-1), .int .i64 64] 3)) w11b := ⟨hm110.os, hm110.tape, hm110.output, hm110.size, hm110.block⟩; obtain ⟨j, rfl⟩ := Int.eq_ofNat_of_zero_le r0; have hj : j < k := (by omega); clear r0 r1; have hzA : (w10.alloc (.cells #[.int .i64 (-1), .int .i64 64] 3)).heap.size = w10.heap.size + 1 := (by simp); have q11b := hm11.cell qA (by omega) (by omega); have hs11 := hm11.size; have hR11b := hide (HRA.out.keepb (hm11.block w10.heap.size (by omega) (by omega))); have HT11 := hide ((HTX.out.alloc (.cells #[.int .i64 (-1), .int .i64 64] 3)).tch hm11 (.inl rfl)); have HO11 := hide (own_tch (HOX.out.alloc (.cells #[.int .i64 (-1), .int .i64 64] 3)) hm11 (by omega)); have HP11 : Hid (Blk w11b w2.heap.size 26 #[.string nm2, .slice (some ⟨g3, 0, none⟩) k c3]) := (hm11.block _ (by omega) (by omega)).trans (HPX.out.alloc (.cells #[.int .i64 (-1), .int .i64 64] 3))) | (go_at_call 77; refine (l01PickInt_c w10.heap.size 2 2 [-1, 64] base B w11b hC11b (hR11b.out.mono (by omega)) (by omega) (by omega) (by omega) (by omega)).mono ?_; rintro e w12 ⟨x, hx, rfl, hc12, hm12⟩; have HC12 := hide hc12; have HT12 := hide (HT11.out.tch hm12 (.inl rfl)); have HO12 := hide (own_tch HO11.out hm12 (by omega)); have HP12 : Hid (Blk w12 w2.heap.size 26 #[.string nm2, .slice (some ⟨g3, 0, none⟩) k c3]) := (hm12.block _ HP11.out.lt (by omega)).trans HP11.out; have q12 : w12.cell? ⟨w2.heap.size, 1, none⟩ = some (.slice (some ⟨g3, 0, none⟩) k c3) := HP12.out.cell 1; have h12f := HO12.out.frozenAt; obtain ⟨v12, hv12⟩ := own_cell HO12.out (j := j * 2 + 1) (by omega); have HS12 := hide (HO12.out.stored (j * 2 + 1) (.int .i64 x)).1; have HP13 : Hid (Blk (w12.setCell ⟨g3, j * 2 + 1, none⟩ (.int .i64 x)) w2.heap.size 26 #[.string nm2, .slice (some ⟨g3, 0, none⟩) k c3]) := HP12.out.far (by show w2.heap.size ≠ g3; omega) _; have q13 : (w12.setCell ⟨g3, j * 2 + 1, none⟩ (.int .i64 x)).cell? ⟨w2.heap.size, 1, none⟩ = some (.slice (some ⟨g3, 0, none⟩) k c3) := HP13.out.cell 1) | fail)
                all_goals
                  have hlr : rs.length = k := by have := HO12.out.1; rw [rC_length] at this; omega
                  have HRS2 : Hid (∀ r ∈ rs.set j ((rs[j]'(by omega)).1, x), r.1.size ≤ 200) := by
                    intro r hr
                    rcases List.mem_or_eq_of_mem_set hr with hr | hr
                    · exact HRS.out r hr
                    · rw [hr]; exact HRS.out (rs[j]'(by omega)) (List.getElem_mem (by omega))
                  rw [rC_setc (show j < rs.length by omega)] at HS12
                  have HCX := hide (HC12.out.set (p := ⟨g3, j * 2 + 1, none⟩) (by show B < g3; omega) (.int .i64 x))
                  have HTX := hide (HT12.out.set (p := ⟨g3, j * 2 + 1, none⟩) (.inr hg3) (.int .i64 x))
                  have HPX := HP13
                  have HOX := HS12
                  generalize rs.set j ((rs[j]'(by omega)).1, x) = rs2 at HRS2 HOX
                  go_upto_region 31 with fail
                  generalize w12.setCell ⟨g3, j * 2 + 1, none⟩ (.int .i64 x) = w13 at HCX HTX HPX HOX ⊢
                  clear HS12 HP13 h12f hv12 q12 q13 qA q1 HCA HRA HC12 HT12 HO12 HP12 HT11 HO11 HP11
                  have HR9 := HTX.out.blk HR.out (by show ¬ (w.heap.size = B ∨ w.heap.size = w2.heap.size); omega)
                  have hl9 := HR9.lt
                  have qR := HR9.cell
                  have fR := HR9.frozen
                  have qP := HPX.out.cell
                  have HR10 := hide ((HR9.set' 0 (.string nm2)).set' 1 (.slice (some ⟨g3, 0, none⟩) k c3))
                  have HT0 := hide (HTX.out.to_tch HT00.out (by intro x hx; rcases hx with hx | hx; exact .inl hx; right; omega))
                  clear HR9
                  go_wp2_with fail
                  have qS : ∀ i, ((w13.setCell ⟨w.heap.size, 0, none⟩ (.string nm2)).setCell ⟨w.heap.size, 1, none⟩ (.slice (some ⟨g3, 0, none⟩) k c3)).cell? ⟨w.heap.size, i, none⟩ = (#[.string nm2, .slice (some ⟨g3, 0, none⟩) k c3] : Array Value)[i]? := HR10.out.cell
                  refine bodyPost_ret (v := .agg #[.string nm2, .slice (some ⟨g3, 0, none⟩) k c3]) (by simp [results, Tryd.results50, go_sem, qS]) rfl ?_
                  exact ⟨nm2, (some ⟨g3, 0, none⟩), k, c3, rs2, HN2.out, by omega, hkc, HRS2.out, rfl, own_mono (ownsRow_setCell_below (ownsRow_setCell_below HOX.out (by show w.heap.size < wq.heap.size; omega) _) (by show w.heap.size < wq.heap.size; omega) _) (by omega), (HCX.out.set (by show B < w.heap.size; omega) _).set (by show B < w.heap.size; omega) _, (HT0.out.setNew (Nat.le_refl _) _).setNew (Nat.le_refl _) _⟩
              · clear hp10
                have HR9 := HTX.out.blk HR.out (by show ¬ (w.heap.size = B ∨ w.heap.size = w2.heap.size); omega)
                have hl9 := HR9.lt
                have qR := HR9.cell
                have fR := HR9.frozen
                have qP := HPX.out.cell
                have HR10 := hide ((HR9.set' 0 (.string nm2)).set' 1 (.slice A3 k c3))
                have HT0 := hide (HTX.out.to_tch HT00.out (by intro x hx; rcases hx with hx | hx; exact .inl hx; right; omega))
                clear HR9
                go_wp2_with fail
                have qS : ∀ i, ((w10.setCell ⟨w.heap.size, 0, none⟩ (.string nm2)).setCell ⟨w.heap.size, 1, none⟩ (.slice A3 k c3)).cell? ⟨w.heap.size, i, none⟩ = (#[.string nm2, .slice A3 k c3] : Array Value)[i]? := HR10.out.cell
                refine bodyPost_ret (v := .agg #[.string nm2, .slice A3 k c3]) (by simp [results, Tryd.results50, go_sem, qS]) rfl ?_
                exact ⟨nm2, A3, k, c3, rs, HN2.out, by omega, hkc, HRS.out, rfl, own_mono (ownsRow_setCell_below (ownsRow_setCell_below HOX.out (by show w.heap.size < wq.heap.size; omega) _) (by show w.heap.size < wq.heap.size; omega) _) (by omega), (HCX.out.set (by show B < w.heap.size; omega) _).set (by show B < w.heap.size; omega) _, (HT0.out.setNew (Nat.le_refl _) _).setNew (Nat.le_refl _) _⟩
end Go.Proofs.YtmjmjloiblbhcaaDoor
