/- The texts of policies, in the program and in its reference; each contract says for which arguments. -/
import Derived.Test.YtmjmjloiblbhcaaDoorC6
import Derived.Test.YtmjmjloiblbhcaaDoorC7
import Derived.Test.YtmjmjloiblbhcaaDoorK1
import Derived.Test.YtmjmjloiblbhcaaDoorQT
import Derived.Test.YtmjmjloiblbhcaaDoorCB
import Derived.Test.YtmjmjloiblbhcaaDoorShelf
import Derived.Deep.RegionHeld3
import Derived.Deep.DeepCutAuto
namespace Go.Proofs.YtmjmjloiblbhcaaDoor
open Go.RowKit
set_option maxRecDepth 100000
set_option maxHeartbeats 1000000
theorem capsG_size (x : Int) : (capsG x).size ≤ 6 := by
  unfold capsG
  split
  · exact (capsB_size _).2
  · decide
theorem IsBuilder_up {T e : TypeId} {B b : Nat} {bs : List Value} {w w' : World} (h : Lib.IsBuilder T e B b bs w) (hb : Below w.heap.size w w') : Lib.IsBuilder T e B b bs w' := by
  rcases h with h | h
  all_goals
    have hlt := h.lt
    obtain ⟨hB, v, hbk, hown, hne⟩ := h
    obtain ⟨A, c, rfl, _⟩ := own_slice hown
    first
    | exact .inl ⟨hB, _, (hb.block b hlt).trans hbk, own_below hown hb, hne⟩
    | exact .inr ⟨hB, _, (hb.block b hlt).trans hbk, own_below hown hb, hne⟩
theorem policyText_c (nm : ByteArray) (A : Option Addr) (c : Nat) (l : List Rl) (w : World) (hr : Rd w w.heap.size 2 A l.length (rC l)) (hl : l.length ≤ 20) (hz : ∀ x ∈ l, x.1.size ≤ 120 ∧ 0 ≤ x.2 ∧ x.2 ≤ 63) :
    Calls Tryd.prog 33 #[.agg #[.string nm, .slice A l.length c]] w (RetV (.string (textB l)) w) := by
  have hlen := text_length fun x hx => (hz x hx).1
  have hT := hide fun k => text_take_le l k
  have HZ := hide hz
  have HL := hide hlen
  clear hz hlen
  go_enter Tryd.func33, Tryd.ntmps33
  go_wp2_with fail
  go_loopw [9] (fun iv wr => ∃ k : Nat, k ≤ l.length ∧ iv = .int .i64 (k : Int) ∧ Lib.IsBuilder 81 5 (w.heap.size + 1) (w.heap.size + 1) (Lib.byteCells (textL (l.take k))) wr ∧ Below w.heap.size w wr ∧ w.heap.size + 1 < wr.heap.size) (fun iv _ => l.length - (intOf iv).toNat)
  case atStart =>
    refine ⟨0, by omega, rfl, .inl ⟨Nat.le_refl _, .slice none 0 0, ?_, World.ownsRow_nil _ _ _ _, by simp [Value.ownBlock]⟩, (by repeat (first | with_reducible exact Below.refl _ _ | with_reducible assumption | refine Below.alloc ?_ (by first | omega | (simp; done) | (simp; omega)) _ | refine Below.setCell ?_ (by first | omega | (simp; done) | (simp; omega)) _ | refine Below.drew ?_ | refine below_drewN ?_ _ | exact Below.refl _ _ | assumption)), by simp⟩
    exact Blk.new1 w _ 81 #[.pointer none, .slice none 0 0]
  case round =>
    obtain ⟨k, hk, rfl, hib, hb, hlt0⟩ := hrel
    have HIB := hide hib
    have HB := hide hb
    clear hib
    by_cases hlt : k < l.length
    · obtain ⟨b, off, rfl, hblt, hll, hc0, hc1⟩ := (hr.below hb (Nat.le_refl _)).rule hlt
      have hzk := HZ.out _ (List.getElem_mem hll)
      obtain ⟨n, hn⟩ := Int.eq_ofNat_of_zero_le hzk.2.1
      have hn64 : n < 64 := by have := hzk.2.2; omega
      rw [hn] at hc1
      have HLT : Hid (textL (l.take (k + 1)) = textL (l.take k) ++ ((((l[k].1 ++ ⟨#[32]⟩) ++ capsB n) ++ ⟨#[10]⟩ : ByteArray)).data.toList) := by
        have h1 := textL_take hll
        have h2 := line_data l[k]
        rw [hn] at h2
        show _ = _
        rw [h1, ← h2]; rfl
      have CC := hide fun (W : World) => capsText_c n hn64 W
      have HSZ : Hid ((Lib.byteCells (textL (l.take k))).length + (((l[k].1 ++ ⟨#[32]⟩) ++ capsB n) ++ ⟨#[10]⟩ : ByteArray).size ≤ 140737488355328) := by
        have h1 := HLT.out
        have h2 := congrArg List.length h1
        rw [List.length_append] at h2
        have h3 := hT.out (k + 1)
        have h4 := HL.out
        have h5 : ((((l[k].1 ++ ⟨#[32]⟩) ++ capsB n) ++ ⟨#[10]⟩ : ByteArray)).data.toList.length = ((((l[k].1 ++ ⟨#[32]⟩) ++ capsB n) ++ ⟨#[10]⟩ : ByteArray)).size := rfl
        show _ ≤ _
        rw [Lib.byteCells_length]
        omega
      have hgs := hzk.1
      have hcs := (capsB_size n).2
      generalize l[k].1 = g at hc0 HLT HSZ hgs
      have CW := hide fun (W : World) (h : Lib.IsBuilder 81 5 (w.heap.size + 1) (w.heap.size + 1) (Lib.byteCells (textL (l.take k))) W) (hw : w.heap.size + 1 ≤ W.heap.size) => write_c (w.heap.size + 1) (w.heap.size + 1) _ (((g ++ ⟨#[32]⟩) ++ capsB n) ++ ⟨#[10]⟩) W h HSZ.out hw
      generalize capsB n = cb at CC CW HLT HSZ hcs
      have hz1 : (g ++ ⟨#[32]⟩ : ByteArray).size = g.size + 1 := by rw [ByteArray.size_append]; rfl
      have hz2 : (g ++ ⟨#[32]⟩ ++ cb : ByteArray).size = g.size + 1 + cb.size := by rw [ByteArray.size_append, hz1]
      have hw1 : ¬ 9223372036854775807 < g.size + 1 := by omega
      have hw2 : ¬ 9223372036854775807 < g.size + 1 + cb.size := by omega
      have hw3 : ¬ 9223372036854775807 < g.size + 1 + cb.size + 1 := by omega
      clear hzk hb hgs hcs
      go_upto_region 5 with fail
      have HI2 := hide (IsBuilder_up (w' := wr.alloc (.cells #[.string g, .int .i64 (n : Int)] 53)) HIB.out (by repeat (first | with_reducible exact Below.refl _ _ | with_reducible assumption | refine Below.alloc ?_ (by first | omega | (simp; done) | (simp; omega)) _ | refine Below.setCell ?_ (by first | omega | (simp; done) | (simp; omega)) _ | refine Below.drew ?_ | refine below_drewN ?_ _ | exact Below.refl _ _ | assumption)))
      have hq := Blk.new wr 53 #[.string g, .int .i64 (n : Int)]
      have q0 : (wr.alloc (.cells #[.string g, .int .i64 (n : Int)] 53)).cell? ⟨wr.heap.size, 0, none⟩ = some (.string g) := hq.cell 0
      have q1 : (wr.alloc (.cells #[.string g, .int .i64 (n : Int)] 53)).cell? ⟨wr.heap.size, 1, none⟩ = some (.int .i64 (n : Int)) := hq.cell 1
      have HQB := hide hq
      have hsa : (wr.alloc (.cells #[.string g, .int .i64 (n : Int)] 53)).heap.size = wr.heap.size + 1 := by simp
      clear hq hc0 hc1
      go_region_held3 (fun w' => w'.cell? ⟨wr.heap.size, 0, none⟩ = some (.string g) ∧ w'.cell? ⟨wr.heap.size, 1, none⟩ = some (.int .i64 (n : Int))) (first | exact ⟨q0, q1⟩ | exact ⟨q60, q61⟩) (first | (go_at_call 38; refine (CC.out _).mono ?_; rintro e w5 ⟨rfl, rfl⟩) | (go_at_call 62; refine (CW.out (wr.alloc (.cells #[.string g, .int .i64 (n : Int)] 53)).drew HI2.out (by show _ ≤ (wr.alloc (.cells #[.string g, .int .i64 (n : Int)] 53)).heap.size; omega)).mono ?_; rintro e w6 ⟨rfl, hba, hb6, hk6⟩; have HQ6 : Blk w6 wr.heap.size 53 #[.string g, .int .i64 (n : Int)] := hk6 _ _ _ (by omega) (by decide) HQB.out; have q60 : w6.cell? ⟨wr.heap.size, 0, none⟩ = some (.string g) := HQ6.cell 0; have q61 : w6.cell? ⟨wr.heap.size, 1, none⟩ = some (.int .i64 (n : Int)) := HQ6.cell 1) | fail)
      all_goals
        have hcat : Lib.byteCells (textL (l.take k)) ++ Lib.strCells (((g ++ ⟨#[32]⟩) ++ cb) ++ ⟨#[10]⟩) = Lib.byteCells (textL (l.take (k + 1))) := by
          rw [HLT.out, Lib.byteCells_append, Lib.strCells_eq]
        rw [hcat] at hba
        have HBA := hide hba
        have hs6 := hba.lt
        have HB6 : Hid (Below w.heap.size w w6) := by
          have h1 : Below w.heap.size w (wr.alloc (.cells #[.string g, .int .i64 (n : Int)] 53)) := HB.out.alloc (by omega) _
          have h2 : Below (w.heap.size + 1) (wr.alloc (.cells #[.string g, .int .i64 (n : Int)] 53)) w6 := ⟨hb6.os, hb6.tape, hb6.output, hb6.size, hb6.block⟩
          exact h1.trans (h2.mono (by omega))
        clear hba hb6 hk6 q0 q1 q60 q61 hcat
        try go_wp2_with fail
        exact ⟨⟨k + 1, by omega, by go_num, .inr HBA.out, HB6.out, hs6⟩, by simp [intOf]; omega⟩
    · have hkl : l.take k = l := List.take_of_length_le (by omega)
      rw [hkl] at HIB
      have CS := hide (Tryd.Builder_String_any (w.heap.size + 1) (w.heap.size + 1) (textL l) wr HIB.out (by omega))
      clear hb hkl
      go_wp2_with fail
      refine CS.out.mono ?_
      rintro e w7 ⟨rfl, hb7⟩
      have HB7 := hide (HB.out.trans (hb7.mono (by omega)))
      clear hb7
      go_wp2_with fail
      go_ret
      exact ⟨rfl, HB7.out⟩
/-- the text that PolicyText gives -/
def polT (nm : ByteArray) (l : List Rl) : ByteArray := if polB nm l then textB l else ⟨#[]⟩
theorem polT_ok {nm : ByteArray} {l : List Rl} (h : polB nm l = true) : polT nm l = textB l := if_pos h
theorem polT_no {nm : ByteArray} {l : List Rl} (h : polB nm l = false) : polT nm l = ⟨#[]⟩ := by unfold polT; rw [h]; rfl
theorem PolicyText_i (nm : ByteArray) (A : Option Addr) (c : Nat) (l : List Rl) (w : World) (hg : GM w) (hr : Rd w w.heap.size 2 A l.length (rC l)) (hz : ∀ x ∈ l, x.1.size < 4294967281) :
    Calls Tryd.prog 9 #[.agg #[.string nm, .slice A l.length c]] w (RetV (.tuple #[.string (polT nm l), .bool (polB nm l)]) w) := by
  have C := hide fun (W : World) (hb : Below w.heap.size w W) => isPolicy_c nm A c l W (hg.up hb) (hr.up hb) hz
  have CT := hide fun (W : World) (hb : Below w.heap.size w W) (hp : polB nm l = true) => policyText_c nm A c l W (hr.up hb) (polB_true.1 hp).2.1 (fun x hx => pol_short hp hx)
  have HOK := hide fun h : polB nm l = true => polT_ok h
  have HNO := hide fun h : polB nm l = false => polT_no h
  generalize polB nm l = P at C CT HOK HNO ⊢
  generalize polT nm l = R at HOK HNO ⊢
  go_enter Tryd.func9, Tryd.ntmps9
  go_wp2_with fail
  refine (C.out _ (by repeat (first | with_reducible exact Below.refl _ _ | with_reducible assumption | refine Below.alloc ?_ (by first | omega | (simp; done) | (simp; omega)) _ | refine Below.setCell ?_ (by first | omega | (simp; done) | (simp; omega)) _ | refine Below.drew ?_ | refine below_drewN ?_ _ | exact Below.refl _ _ | assumption))).mono ?_
  rintro e w1 ⟨rfl, hb1⟩
  have HB1 : Hid (Below w.heap.size w w1) := then_ (by repeat (first | with_reducible exact Below.refl _ _ | with_reducible assumption | refine Below.alloc ?_ (by first | omega | (simp; done) | (simp; omega)) _ | refine Below.setCell ?_ (by first | omega | (simp; done) | (simp; omega)) _ | refine Below.drew ?_ | refine below_drewN ?_ _ | exact Below.refl _ _ | assumption)) hb1 (by first | omega | (simp; done) | (simp; omega))
  have HX : Hid (Blk w1 w.heap.size 26 #[.string nm, .slice A l.length c]) := (Blk.new w _ _).below hb1 (by simp)
  have qx := HX.out.cell
  clear hb1
  cases P
  · obtain rfl := HNO.out (by first | rfl | trivial)
    go_wp2_with fail
    refine bodyPost_ret (v := .tuple #[.string ⟨#[]⟩, .bool false]) (by simp [results, Tryd.results9, go_sem]) rfl ?_
    exact ⟨rfl, HB1.out⟩
  · obtain rfl := HOK.out (by first | rfl | trivial)
    go_wp2_with fail
    refine (CT.out _ HB1.out (by first | rfl | trivial)).mono ?_
    rintro e w2 ⟨rfl, hb2⟩
    have HB2 := hide (then_ HB1.out hb2 HB1.out.size)
    clear hb2
    go_wp2_with fail
    refine bodyPost_ret (v := .tuple #[.string (textB l), .bool true]) (by simp [results, Tryd.results9, go_sem]) rfl ?_
    exact ⟨rfl, HB2.out⟩
end Go.Proofs.YtmjmjloiblbhcaaDoor
