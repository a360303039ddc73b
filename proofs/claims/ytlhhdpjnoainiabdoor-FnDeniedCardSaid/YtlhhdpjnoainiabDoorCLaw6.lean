/- The law of denied paths: it returns true; its contract says for which arguments. -/
import Derived.Test.YtlhhdpjnoainiabDoorBE3
import Derived.Test.YtlhhdpjnoainiabDoorCLaw4
namespace Go.Proofs.YtlhhdpjnoainiabDoor
open Go.RowKit
set_option maxRecDepth 100000
set_option maxHeartbeats 1000000
/-- some bytes, in new memory -/
def RetC (w : World) (en : Ending) (w' : World) : Prop := ∃ (A : Option Addr) (n c : Nat) (l : List UInt8), en = .returned (.slice A n c) ∧ n ≤ 1048576 ∧ Rd w' w'.heap.size 1 A n (bC l) ∧ Below w.heap.size w w'
theorem big_c (A : Option Addr) (n c : Nat) (w : World) (hn : n ≤ 9223372036854775807) : Calls Tryd.prog 39 #[.slice A n c] w (Pure (.bool (decide (1048576 < n))) w) := by
  have e : Hid (decide (1048576 < n) = decide (1048576 < n)) := rfl
  by_cases h : 1048576 < n
  all_goals
    go_enter Tryd.func39, Tryd.ntmps39
    go_wp2_with fail
    go_ret
    exact ⟨by simp; omega, rfl⟩
theorem covA_refl : ∀ x : List ByteArray, covA x x = true
  | [] => rfl
  | p :: x => by
    cases hs : isStar p with
    | true => simp [covA, hs]
    | false => cases hq : isPlus p <;> simp [covA, hs, hq, covA_refl x]
theorem capF_snoc (ps : List Pl) (x : Pl) (p : ByteArray) : capF (ps ++ [x]) p (ps ++ [x]).length = capF ps p ps.length ||| rcN x.2 p := by
  have h : ps.length < (ps ++ [x]).length := by simp
  rw [show (ps ++ [x]).length = ps.length + 1 from by simp, capF_succ h]
  have e1 : (ps ++ [x])[ps.length]'h = x := by simp
  rw [e1]
  unfold capF
  simp
theorem capsR_pos {ps : List Pl} {p : ByteArray} (h : ¬ capsR ps p < 0) : ps.length ≤ 10 ∧ pathB p = true ∧ allPol ps = true ∧ capsR ps p = (denyN (capF ps p ps.length) : Int) := by
  unfold capsR at h ⊢
  split at h
  · rename_i hc
    simp only [Bool.and_eq_true, decide_eq_true_eq] at hc
    rw [if_pos (by simp [hc.1, hc.2.1, hc.2.2])]
    exact ⟨hc.1, hc.2.1, hc.2.2, rfl⟩
  · omega
theorem allPol_snoc {ps : List Pl} {x : Pl} (h : allPol ps = true) (hx : polB x.1 x.2 = true) : allPol (ps ++ [x]) = true := by
  unfold allPol at *
  rw [List.all_append, h]; simp [hx]
def noneP : Pl := (⟨#[110, 111, 110, 101]⟩, [])
def noP (p : ByteArray) : Pl := (⟨#[110, 111]⟩, [(p, 32)])
theorem noneP_ok : polB noneP.1 noneP.2 = true := by decide
theorem noP_ok {p : ByteArray} (hp : pathB p = true) : polB (noP p).1 (noP p).2 = true := by
  simp only [pathB, Bool.and_eq_true] at hp
  refine polB_true.2 ⟨by show nameB ⟨#[110, 111]⟩ = true; decide, by simp [noP], fun k hk => ?_⟩
  have hk0 : k = 0 := by simp [noP] at hk; omega
  subst hk0
  rw [ruleOk_zero (by simp [noP])]
  simp [noP, hp.1, inB]
theorem noP_caps {p : ByteArray} (hp : pathB p = true) : rcN (noP p).2 p = 32 := by
  have hc : coversB p p = true := by
    simp only [pathB, Bool.and_eq_true] at hp
    simp [coversB, hp.1, covA_refl]
  show (ruleA [(p, 32)] p 1).1.2.toNat = 32
  have ht : takesR p (ruleA [(p, 32)] p 0) (p, 32) = true := by simp [takesR, hc, ruleA_zero, noRule]
  have := ruleA_take (rs := [(p, 32)]) (p := p) (k := 0) (by simp) ht
  rw [this]; rfl
theorem denied {ps : List Pl} {p : ByteArray} (h : ¬ capsR ps p < 0) (h10 : ps.length ≠ 10) : capsR (ps ++ [noneP]) p = capsR ps p ∧ capsR (ps ++ [noP p]) p = 32 := by
  obtain ⟨h1, h2, h3, h4⟩ := capsR_pos h
  constructor
  · rw [h4]
    unfold capsR
    rw [if_pos (by simp [h2, allPol_snoc h3 noneP_ok]; omega), capF_snoc]
    have : rcN noneP.2 p = 0 := rfl
    rw [this, Nat.or_zero]
  · unfold capsR
    rw [if_pos (by simp [h2, allPol_snoc h3 (noP_ok h2)]; omega), capF_snoc, noP_caps h2]
    have hge : 32 ≤ capF ps p ps.length ||| 32 := Nat.right_le_or
    unfold denyN
    rw [if_neg (by omega)]; rfl
theorem allow_no {ps : List Pl} {p : ByteArray} {x : Int} (h : capsR ps p = 32) (hx : x = 1 ∨ x = 2 ∨ x = 4 ∨ x = 8 ∨ x = 16) : allowB ps p x = false := by
  unfold allowB
  rw [h]
  rcases hx with rfl | rfl | rfl | rfl | rfl <;> decide
theorem allow_is {ps : List Pl} {p : ByteArray} {x : Int} (h : ¬ capsR ps p < 0) (hx : x = 1 ∨ x = 2 ∨ x = 4 ∨ x = 8 ∨ x = 16) : allowB ps p x = !(bits .and .i64 (capsR ps p) x == 0) := by
  unfold allowB
  have h0 : decide (0 ≤ capsR ps p) = true := decide_eq_true (by omega)
  have hw : wants.contains x = true := by rcases hx with rfl | rfl | rfl | rfl | rfl <;> decide
  rw [h0, hw]; simp
theorem set_two {cs : List Value} {n : Nat} (h : cs.length = n * 2) (a b c d : Value) : ((cs ++ [a, b]).set (n * 2) c).set (n * 2 + 1) d = cs ++ [c, d] := by
  rw [← h, List.set_append_right _ _ (Nat.le_refl _), List.set_append_right _ _ (by omega), Nat.sub_self, show cs.length + 1 - cs.length = 1 from by omega]
  rfl
theorem fnDenied_walk (A : Option Addr) (n c : Nat) (l : List UInt8) (w : World) (hg : GM w) (hr : Rd w w.heap.size 1 A n (bC l)) :
    Calls Tryd.prog 8 #[.slice A n c] w (RetV (.bool true) w) := by
  by_cases hbig : 1048576 < n
  · have hbd := hr.bd
    have hbg : decide (1048576 < n) = true := decide_eq_true hbig
    have C0 := hide (big_c A n c w hbd)
    go_enter Tryd.func8, Tryd.ntmps8
    go_wp2_with fail
    refine C0.out.mono ?_
    rintro e w0 ⟨rfl, rfl⟩
    rw [hbg]
    go_wp2_with fail
    go_ret
    exact ⟨rfl, Below.refl _ _⟩
  have hn : n ≤ 1048576 := by omega
  have hbg : decide (1048576 < n) = false := decide_eq_false hbig
  have C0 := hide (big_c A n c w (by omega))
  clear hbig
  go_enter Tryd.func8, Tryd.ntmps8
  go_wp2_with fail
  refine C0.out.mono ?_
  rintro e w0 ⟨rfl, rfl⟩
  rw [hbg]
  clear C0 hbg
  go_wp2_with fail
  refine (DrawCapsOf_c A n c l _ hr hn).mono ?_
  rintro e w1 ⟨A1, n1, c1, ps, p, hn1, hps, hp, rfl, hr1, hb1⟩
  obtain rfl : n1 = ps.length := hr1.1.symm
  have HB1 := hide hb1
  have HR1 := hide hr1
  have HPS := hide hps
  have hz : ∀ y ∈ ps, ∀ z ∈ y.2, z.1.size < 4294967281 := fun y hy z hz => by have := (hps y hy).2.2 z hz; omega
  have hnm : ∀ x ∈ ps, x.1.size ≤ 9223372036854775806 := fun y hy => by have := (hps y hy).1; omega
  have CS := hide (CapsOf_s A1 c1 ps p w1 hr1 hz hnm (by omega))
  have CI := hide fun (W : World) (qs : List Pl) (A : Option Addr) (c : Nat) (hg : GM W) (h : PlR W W.heap.size A qs.length qs) (hz : ∀ y ∈ qs, ∀ z ∈ y.2, z.1.size < 4294967281) => CapsOf_i A c qs p W hg h hz (by omega)
  have CA := hide fun (W : World) (qs : List Pl) (A : Option Addr) (c : Nat) (x : Int) (hg : GM W) (h : PlR W W.heap.size A qs.length qs) (hz : ∀ y ∈ qs, ∀ z ∈ y.2, z.1.size < 4294967281) => Allowed_i A c qs p x W hg h hz (by omega)
  have HZ := hide hz
  have HPP := hide hp
  clear hz hnm hb1 hr1 hps hp
  go_wp2_with fail
  refine CS.out.mono ?_
  rintro e w2 ⟨rfl, hb2⟩
  have HB2 := hide (then_ HB1.out hb2 HB1.out.size)
  have HR2 := hide (HR1.out.up hb2)
  clear hb2 CS HR1
  by_cases hneg : capsR ps p < 0
  · generalize capsR ps p = R at hneg ⊢
    go_wp2_with fail
    go_ret
    exact ⟨rfl, HB2.out⟩
  by_cases h10 : ps.length = 10
  · have h10' : ((ps.length : Int) == 10) = true := by rw [h10]; rfl
    generalize capsR ps p = R at hneg ⊢
    go_wp2_with fail
    go_ret
    exact ⟨rfl, HB2.out⟩
  have HDN := hide (denied hneg h10)
  have HAI := hide fun (x : Int) (hx : x = 1 ∨ x = 2 ∨ x = 4 ∨ x = 8 ∨ x = 16) => allow_is hneg hx
  have hCI := CI.out w2 ps A1 c1 (hg.up HB2.out) HR2.out HZ.out
  have h10' : ((ps.length : Int) == 10) = false := beq_eq_false_iff_ne.2 (by omega)
  generalize capsR ps p = R at hneg HDN HAI hCI ⊢
  have hRR : (R != R) = false := by simp
  have HCI := hide hCI
  clear hCI
  go_wp2_with fail
  refine HCI.out.mono ?_
  rintro e w3 ⟨rfl, hb3⟩
  have HB3 := hide (then_ HB2.out hb3 HB2.out.size)
  have HR3 := hide (HR2.out.up hb3)
  clear hb3 HCI HR2
  go_wp2_with fail
  go_loopw [6, 7] (fun ov iv wr => ∃ (k : Nat) (cs : List Value) (A3 : Option Addr) (c3 : Nat), k ≤ ps.length ∧ iv = .int .i64 (k : Int) ∧ ov = .slice A3 k c3 ∧ k ≤ c3 ∧ wr.ownsRow w3.heap.size 38 2 (.slice A3 k c3) k cs ∧ PlC wr w3.heap.size cs (ps.take k) ∧ Below w3.heap.size w3 wr) (fun _ iv _ => ps.length - (intOf iv).toNat)
  case atStart => exact ⟨0, [], _, _, by omega, rfl, rfl, Nat.le_refl _, World.ownsRow_made _ #[] 0 (Nat.le_refl _) (by omega) rfl, PlC.nil _ _, (by repeat (first | with_reducible exact Below.refl _ _ | with_reducible assumption | refine Below.alloc ?_ (by first | omega | (simp; done) | (simp; omega)) _ | refine Below.setCell ?_ (by first | omega | (simp; done) | (simp; omega)) _ | refine Below.drew ?_ | refine below_drewN ?_ _ | exact Below.refl _ _ | assumption))⟩
  case round =>
    obtain ⟨k, cs, A3, c3, hk, rfl, rfl, hkc, ho3, hpc, hb3⟩ := hrel
    have HO := hide ho3
    have HC := hide hpc
    have HB := hide hb3
    have hsr := hb3.size
    have hcl := hpc.1
    by_cases hlt : k < ps.length
    · obtain ⟨b, off, rfl, hblt, hl, Ak, ck, hc, hd, hrk⟩ := (HR3.out.below hb3 (Nat.le_refl _)).at_ hlt
      have HRK := hide hrk
      clear ho3 hpc hb3 hrk
      go_wp2_with (at_builtin; refine wpList_push wr rfl (.tmp 38) (.tmp 43) 51 rfl w3.heap.size 38 _ 2 40 Tryd.underlying51 info_p rfl (by omega) A3 k c3 _ [.string ps[k].1, .slice Ak ps[k].2.length ck] rfl HO.out rfl rfl (by simp [Value.oneCell']) (by omega) (by omega) hsr ?_; intro A4 c4 w9 hc9 hown9 hg9 _)
      have hb9 := grown_below HO.out hg9 hsr
      have HC9 := hide ((HC.out.snoc ps[k].1 Ak ck ps[k].2 HRK.out).below hb9 (Nat.le_refl _))
      refine ⟨⟨k + 1, _, A4, c4, by omega, by go_num, rfl, hc9, hown9, ?_, HB.out.trans hb9⟩, by simp [intOf]; omega⟩
      rw [List.take_succ_eq_append_getElem hl]
      exact HC9.out
    · have hkl : k = ps.length := by omega
      subst hkl
      rw [List.take_length] at hpc
      have HC := hide hpc
      clear ho3 hpc hb3 hcl
      go_wp2_with (at_builtin; refine wpList_push wr rfl (.tmp 45) (.tmp 47) 51 rfl w3.heap.size 38 _ 2 40 Tryd.underlying51 info_p rfl (by omega) A3 ps.length c3 _ [.string ⟨#[110, 111, 110, 101]⟩, .slice none 0 0] rfl HO.out rfl rfl (by simp [Value.oneCell']) (by omega) (by omega) hsr ?_; intro A4 c4 w4 hc4 hown4 hg4 _)
      have hb4 := grown_below HO.out hg4 hsr
      have HO4 := hide hown4
      have HC4 := hide (HC.out.below hb4 (Nat.le_refl _))
      have HB4 := hide (HB.out.trans hb4)
      have hs4 := HB4.out.size
      have HB4' := hide (HB3.out.trans (HB4.out.mono HB3.out.size))
      clear hown4 hg4 hb4 HO HC HB
      have hCI := CI.out w4 (ps ++ [noneP]) A4 c4 (hg.up HB4'.out) ((HC4.out.mono hs4).snoc _ none 0 [] (Rd.nil _ _ _ _) |>.plr HO4.out (by omega) (by simp) |> fun h => by rw [show (ps ++ [noneP]).length = ps.length + 1 from by simp]; exact h) (by
        intro y hy z hz
        rcases List.mem_append.1 hy with hy | hy
        · exact HZ.out y hy z hz
        · rw [List.mem_singleton.1 hy] at hz; simp [noneP] at hz)
      rw [HDN.out.1, show (ps ++ [noneP]).length = ps.length + 1 from by simp] at hCI
      have HCI := hide hCI
      clear hCI
      go_wp2_with fail
      refine HCI.out.mono ?_
      rintro e w5 ⟨rfl, hb5⟩
      have HO5 := hide (own_below HO4.out hb5)
      have HC5 := hide (HC4.out.below hb5 hs4)
      have HB5 := hide (HB4.out.trans (hb5.mono hs4))
      have HB5' := hide (then_ HB4'.out hb5 HB4'.out.size)
      have hs5 := HB5.out.size
      obtain ⟨g4, rfl, hg4⟩ := own_some HO5.out (by omega)
      have hlg := (own_base HO5.out).2
      have f5 := HO5.out.frozenAt
      obtain ⟨v5, hv5⟩ := own_cell HO5.out (j := ps.length * 2) (by omega)
      obtain ⟨u5, hu5⟩ := own_cell HO5.out (j := ps.length * 2 + 1) (by omega)
      clear hb5 HCI HO4 HC4 HB4 HB4'
      go_upto_region 18 with fail
      have hlc : (ps ++ [noP p]).length = ps.length + 1 := by simp
      have HP6 : Hid (PlR (((w5.setCell ⟨g4, ps.length * 2, none⟩ (.string ⟨#[110, 111]⟩)).setCell ⟨g4, ps.length * 2 + 1, none⟩ (.slice (some ⟨w5.heap.size, 0, none⟩) 1 1)).alloc (.cells #[.string p, .int .i64 32] 43)) (((w5.setCell ⟨g4, ps.length * 2, none⟩ (.string ⟨#[110, 111]⟩)).setCell ⟨g4, ps.length * 2 + 1, none⟩ (.slice (some ⟨w5.heap.size, 0, none⟩) 1 1)).alloc (.cells #[.string p, .int .i64 32] 43)).heap.size (some ⟨g4, 0, none⟩) (ps ++ [noP p]).length (ps ++ [noP p])) := by
        have h1 := ((HO5.out.stored (ps.length * 2) (.string ⟨#[110, 111]⟩)).1.stored (ps.length * 2 + 1) (.slice (some ⟨w5.heap.size, 0, none⟩) 1 1)).1.alloc (.cells #[.string p, .int .i64 32] 43)
        rw [set_two HC5.out.1] at h1
        have h2 := (Ow.made ((w5.setCell ⟨g4, ps.length * 2, none⟩ (.string ⟨#[110, 111]⟩)).setCell ⟨g4, ps.length * 2 + 1, none⟩ (.slice (some ⟨w5.heap.size, 0, none⟩) 1 1)) #[.string p, .int .i64 32] 43 1 2 rfl (by omega)).rd
        have h3 : PlC _ w3.heap.size cs ps := HC5.out.below (b := w3.heap.size) (w' := ((w5.setCell ⟨g4, ps.length * 2, none⟩ (.string ⟨#[110, 111]⟩)).setCell ⟨g4, ps.length * 2 + 1, none⟩ (.slice (some ⟨w5.heap.size, 0, none⟩) 1 1)).alloc (.cells #[.string p, .int .i64 32] 43)) (by repeat (first | with_reducible exact Below.refl _ _ | with_reducible assumption | refine Below.alloc ?_ (by first | omega | (simp; done) | (simp; omega)) _ | refine Below.setCell ?_ (by first | omega | (simp; done) | (simp; omega)) _ | refine Below.drew ?_ | refine below_drewN ?_ _ | exact Below.refl _ _ | assumption)) (Nat.le_refl _)
        simp only [World.size_setCell] at h2
        have h4 := (h3.mono (hi' := w5.heap.size + 1) (by omega)).snoc ⟨#[110, 111]⟩ (some ⟨w5.heap.size, 0, none⟩) 1 [(p, 32)] h2
        show PlR _ _ _ _ _
        rw [hlc]
        exact (h4.mono (by simp)).plr h1 (by omega) hlc
      have HB6 : Hid (Below w.heap.size w (((w5.setCell ⟨g4, ps.length * 2, none⟩ (.string ⟨#[110, 111]⟩)).setCell ⟨g4, ps.length * 2 + 1, none⟩ (.slice (some ⟨w5.heap.size, 0, none⟩) 1 1)).alloc (.cells #[.string p, .int .i64 32] 43))) := by
        have h1 := HB3.out.size
        have h2 := HB5'.out.size
        have h3 := HB5'.out
        show Below _ _ _
        exact (by repeat (first | with_reducible exact Below.refl _ _ | with_reducible assumption | refine Below.alloc ?_ (by first | omega | (simp; done) | (simp; omega)) _ | refine Below.setCell ?_ (by first | omega | (simp; done) | (simp; omega)) _ | refine Below.drew ?_ | refine below_drewN ?_ _ | exact Below.refl _ _ | assumption))
      have HR6 : Hid (PlR (((w5.setCell ⟨g4, ps.length * 2, none⟩ (.string ⟨#[110, 111]⟩)).setCell ⟨g4, ps.length * 2 + 1, none⟩ (.slice (some ⟨w5.heap.size, 0, none⟩) 1 1)).alloc (.cells #[.string p, .int .i64 32] 43)) (((w5.setCell ⟨g4, ps.length * 2, none⟩ (.string ⟨#[110, 111]⟩)).setCell ⟨g4, ps.length * 2 + 1, none⟩ (.slice (some ⟨w5.heap.size, 0, none⟩) 1 1)).alloc (.cells #[.string p, .int .i64 32] 43)).heap.size A1 ps.length ps) := by
        have h3 := HB5.out
        exact (HR3.out.below (B := w3.heap.size) (by repeat (first | with_reducible exact Below.refl _ _ | with_reducible assumption | refine Below.alloc ?_ (by first | omega | (simp; done) | (simp; omega)) _ | refine Below.setCell ?_ (by first | omega | (simp; done) | (simp; omega)) _ | refine Below.drew ?_ | refine below_drewN ?_ _ | exact Below.refl _ _ | assumption)) (Nat.le_refl _)).mono (by simp; omega)
      clear f5 hv5 hu5 HO5 HC5 HB5 HB5'
      generalize (((w5.setCell ⟨g4, ps.length * 2, none⟩ (.string ⟨#[110, 111]⟩)).setCell ⟨g4, ps.length * 2 + 1, none⟩ (.slice (some ⟨w5.heap.size, 0, none⟩) 1 1)).alloc (.cells #[.string p, .int .i64 32] 43)) = w6 at HP6 HB6 HR6 ⊢
      have HZ6 : Hid (∀ y ∈ ps ++ [noP p], ∀ z ∈ y.2, z.1.size < 4294967281) := by
        intro y hy z hz
        rcases List.mem_append.1 hy with hy | hy
        · exact HZ.out y hy z hz
        · rw [List.mem_singleton.1 hy] at hz
          have hp := HPP.out
          simp [noP] at hz
          rw [hz]
          show p.size < _
          omega
      have HNO := hide fun (x : Int) (hx : x = 1 ∨ x = 2 ∨ x = 4 ∨ x = 8 ∨ x = 16) => allow_no HDN.out.2 hx
      have CA1 := hide fun (W : World) (x : Int) (hb : Below w6.heap.size w6 W) => CA.out W (ps ++ [noP p]) (some ⟨g4, 0, none⟩) c4 x (hg.up (then_ HB6.out hb HB6.out.size)) (HP6.out.up hb) HZ6.out
      rw [hlc] at CA1
      have CA2 := hide fun (W : World) (x : Int) (hb : Below w6.heap.size w6 W) => CA.out W ps A1 c1 x (hg.up (then_ HB6.out hb HB6.out.size)) (HR6.out.up hb) HZ.out
      clear hlc
      go_wp2_with fail
      go_loopw [8] (fun xv wr => ∃ x : Int, (x = 1 ∨ x = 2 ∨ x = 4 ∨ x = 8 ∨ x = 16 ∨ x = 32) ∧ xv = .int .i64 x ∧ Below w6.heap.size w6 wr) (fun xv _ => (32 - intOf xv).toNat)
      case atStart => exact ⟨1, .inl rfl, rfl, Below.refl _ _⟩
      case round =>
        obtain ⟨x, hx, rfl, hb6⟩ := hrel
        have HX := hide hx
        by_cases hle : x ≤ 16
        · have hx5 : x = 1 ∨ x = 2 ∨ x = 4 ∨ x = 8 ∨ x = 16 := by omega
          have h1 := HNO.out x hx5
          have h2 := HAI.out x hx5
          have hC1 := CA1.out wr x hb6
          rw [h1] at hC1
          have HC1 := hide hC1
          have HHB := hide hb6
          have hx0 : 1 ≤ x := by omega
          have HX5 := hide hx5
          have H2 := hide h2
          clear hC1 h1 h2 hx hx5 hb6
          go_wp2_with fail
          refine HC1.out.mono ?_
          rintro e w7 ⟨rfl, hb7⟩
          have HB7 := hide (then_ HHB.out hb7 HHB.out.size)
          have hC2 := CA2.out w7 x (HHB.out.trans (hb7.mono HHB.out.size))
          rw [H2.out] at hC2
          have HC2 := hide hC2
          clear hC2 hb7
          cases hq : (bits .and .i64 R x == 0)
          · rw [hq] at HC2
            have hq2 : (bits .and .i64 R x != 0) = true := by rw [bne, hq]; rfl
            go_wp2_with fail
            refine HC2.out.mono ?_
            rintro e w8 ⟨rfl, hb8⟩
            have HB8 := hide (then_ HB7.out hb8 HB7.out.size)
            clear hb8
            go_wp2_with fail
            have hx9 := HX5.out
            exact ⟨⟨x * 2, by omega, by go_num, HB8.out⟩, by simp [intOf]; omega⟩
          · rw [hq] at HC2
            have hq2 : (bits .and .i64 R x != 0) = false := by rw [bne, hq]; rfl
            go_wp2_with fail
            refine HC2.out.mono ?_
            rintro e w8 ⟨rfl, hb8⟩
            have HB8 := hide (then_ HB7.out hb8 HB7.out.size)
            clear hb8
            go_wp2_with fail
            have hx9 := HX5.out
            exact ⟨⟨x * 2, by omega, by go_num, HB8.out⟩, by simp [intOf]; omega⟩
        · have HBW := hide (then_ HB6.out hb6 HB6.out.size)
          clear hb6
          go_wp2_with fail
          go_ret
          exact ⟨rfl, HBW.out⟩
end Go.Proofs.YtlhhdpjnoainiabDoor
