/- Policies read of texts, in the program and in its reference; each contract says for which arguments. -/
import Derived.Test.YtmjmjloiblbhcaaDoorC12
import Derived.Test.YtmjmjloiblbhcaaDoorBE2
import Derived.Test.YtmjmjloiblbhcaaDoorQP
namespace Go.Proofs.YtmjmjloiblbhcaaDoor
open Go.RowKit
set_option maxRecDepth 100000
set_option maxHeartbeats 1000000
theorem parts_len (c : UInt8) : ∀ (l : List UInt8), ∀ p ∈ partsL c l, p.length ≤ l.length
  | [], p, h => by simp [partsL] at h; subst h; simp
  | x :: xs, p, h => by
    have ih := parts_len c xs
    unfold partsL at h
    split at h
    · rcases List.mem_cons.1 h with rfl | h
      · simp
      · have := ih p h; simp; omega
    · rw [partsL_cons c xs] at ih
      rcases List.mem_cons.1 h with rfl | h
      · have := ih ((partsL c xs).headD []) (by simp); simp at this ⊢; omega
      · have := ih p (List.mem_cons_of_mem _ h); simp; omega
theorem prt_size {c : UInt8} {s p : ByteArray} (h : p ∈ prt c s) : p.size ≤ s.size := by
  obtain ⟨q, hq, rfl⟩ := List.mem_map.1 h
  exact parts_len c s.data.toList q hq
theorem ruleOf_size {s : ByteArray} {r : Rl} (h : ruleOf s = some r) : r.1.size ≤ s.size := by
  by_cases hl : (prt 32 s).length = 2
  · obtain ⟨g, t, e⟩ : ∃ g t, prt 32 s = [g, t] := by
      generalize prt 32 s = ps at hl
      match ps, hl with
      | [g, t], _ => exact ⟨g, t, rfl⟩
    rw [ruleOf_two e] at h
    split at h
    · injection h with h
      subst h
      exact prt_size (by rw [e]; simp)
    · cases h
  · rw [ruleOf_len hl] at h; cases h
theorem rules_size {t : ByteArray} : ∀ x ∈ rulesT t, x.1.size ≤ t.size := by
  intro x hx
  obtain ⟨s, hs, rfl⟩ := List.mem_map.1 hx
  unfold ruleD
  cases h : ruleOf s with
  | none => exact Nat.zero_le _
  | some r => exact Nat.le_trans (ruleOf_size h) (prt_size ((List.dropLast_sublist _).subset hs))
/-- a policy read of a text, in new memory -/
def RetPP (nm t : ByteArray) (w : World) (en : Ending) (w' : World) : Prop :=
  ∃ A c, en = .returned (.tuple #[.agg #[.string (parN nm t), .slice A (parR nm t).length c], .bool (parP nm t)]) ∧ (parR nm t).length ≤ c ∧
    w'.ownsRow w.heap.size 53 2 (.slice A (parR nm t).length c) (parR nm t).length (rC (parR nm t)) ∧ Below w.heap.size w w'
theorem RetPP.no {nm t : ByteArray} {w w' : World} (h : parP nm t = false) (hb : Below w.heap.size w w') : RetPP nm t w (.returned (.tuple #[.agg #[.string ⟨#[]⟩, .slice none 0 0], .bool false])) w' := by
  obtain ⟨e1, e2⟩ := parR_no h
  unfold RetPP
  rw [e1, e2, h]
  exact ⟨none, 0, rfl, Nat.le_refl _, World.ownsRow_nil _ _ _ _, hb⟩
theorem RetPP.ok {nm t : ByteArray} {w w' : World} {A : Option Addr} {k c : Nat} (h : parP nm t = true) (hk : k = (rulesT t).length) (hc : k ≤ c) (ho : w'.ownsRow w.heap.size 53 2 (.slice A k c) k (rC (rulesT t))) (hb : Below w.heap.size w w') :
    RetPP nm t w (.returned (.tuple #[.agg #[.string nm, .slice A k c], .bool true])) w' := by
  obtain ⟨e1, e2⟩ := parR_ok h
  subst hk
  unfold RetPP
  rw [e1, e2, h]
  exact ⟨A, c, rfl, hc, ho, hb⟩
theorem Tc.below {S : Nat → Prop} {w0 w w' : World} {b : Nat} (h : Tc S w w') (h0 : Below b w0 w) (hb : b ≤ w.heap.size) (hS : ∀ k, S k → b ≤ k) : Below b w0 w' :=
  ⟨h.os.trans h0.os, h.tape.trans h0.tape, h.output.trans h0.output, Nat.le_trans h0.size h.size, fun k hk => (h.block k (by omega) (fun e => by have := hS k e; omega)).trans (h0.block k hk)⟩
theorem split10_c (s : ByteArray) (w : World) (hg : GM w) (hs : s.size < 4294967281) :
    Calls Tryd.prog 34 #[.string s, .string { data := #[10] }] w (RetRow 9 1 (prt 10 s).length (sC (prt 10 s)) w) := by
  obtain ⟨m, hm⟩ := hg
  have hle := prt_length_le 10 s
  refine (Tryd.strings_Split s { data := #[10] } m w hs hm (by decide)).mono ?_
  rintro e w' ⟨rfl, rfl⟩
  rw [splitB_prt 10 s _ rfl, countB_prt 10 s _ rfl]
  refine ⟨_, _, rfl, Nat.le_refl _, ?_, (Below.refl _ _).alloc (Nat.le_refl _) _⟩
  have h := World.ownsRow_lit (e := 9) (size := 1) (base := w.heap.size) w ((prt 10 s).map Value.string).toArray (prt 10 s).length (Nat.le_refl _) (by simp only [maxLen]; omega) (by simp)
  exact h
/-- a text cut at the first space -/
def RetCut (s : ByteArray) (w : World) (e : Ending) (w' : World) : Prop := ∃ b : Bool, e = .returned (.tuple #[.string (cutG s), .string (cutT s), .bool b]) ∧ Below w.heap.size w w'
theorem cut32_c (s : ByteArray) (w : World) (hg : GM w) (hs : s.size < 4294967281) :
    Calls Tryd.prog 35 #[.string s, .string { data := #[32] }] w (RetCut s w) := by
  obtain ⟨m, hm⟩ := hg
  refine (Tryd.strings_Cut s { data := #[32] } m w hs hm).mono ?_
  rintro e w' ⟨rfl, n, rfl⟩
  exact ⟨_, rfl, below_drewN (Below.refl _ _) n⟩
theorem ParsePolicy_i (nm t : ByteArray) (w : World) (hg : GM w) (ht : t.size < 4294967281) :
    Calls Tryd.prog 10 #[.string nm, .string t] w (RetPP nm t w) := by
  have hln := linesT_length t
  have hpl := prt_length_le 10 t
  have HLG := hide (fun k h h2 => linesT_get t k h : ∀ k (h : k < (linesT t).length) (h2 : k < (prt 10 t).length), (linesT t)[k]'h = (prt 10 t)[k]'h2)
  have HBAD := hide fun (k : Nat) (hk : k < (linesT t).length) (h : ruleOf ((linesT t)[k]'hk) = none) => parP_line (nm := nm) hk h
  have HLONG := hide fun (h : 20 < (linesT t).length) => parP_long (nm := nm) h
  have HALL := hide fun (h : ∀ k (hk : k < (linesT t).length), (ruleOf ((linesT t)[k]'hk)).isSome = true) => parP_all (nm := nm) h
  have HRT := hide fun (k : Nat) (h : k < (linesT t).length) => rulesT_take h
  have HRL := hide (rulesT_length t)
  have HRZ := hide (rules_size (t := t))
  have HZ := hide fun (k : Nat) (h : k < (prt 10 t).length) => prt_size (List.getElem_mem h)
  have HSP := hide fun (W : World) (hg : GM W) => split10_c t W hg ht
  have HT := hide ht
  go_enter Tryd.func10, Tryd.ntmps10
  go_wp2_with fail
  refine (HSP.out _ (hg.up (by repeat (first | with_reducible exact Below.refl _ _ | with_reducible assumption | refine Below.alloc ?_ (by first | omega | (simp; done) | (simp; omega)) _ | refine Below.setCell ?_ (by first | omega | (simp; done) | (simp; omega)) _ | refine Below.drew ?_ | refine below_drewN ?_ _ | exact Below.refl _ _ | assumption)))).mono ?_
  rintro e w1 ⟨A1, c1, rfl, hc1, hown1, hb1⟩
  have hs1 := hb1.size
  simp only [World.size_alloc] at hs1
  obtain ⟨bl, rfl, hbl⟩ := own_some hown1 (by omega)
  simp only [World.size_alloc] at hbl
  have hbl2 := (own_base hown1).2
  have HR1 : Hid (Blk w1 w.heap.size 26 #[.string ⟨#[]⟩, .slice none 0 0]) := ((Blk.new w 26 #[.string ⟨#[]⟩, .slice none 0 0]).alloc _).below hb1 (by simp; omega)
  have HP1 : Hid (Blk w1 (w.heap.size + 1) 26 #[.string nm, .slice none 0 0]) := (Blk.new1 w _ 26 #[.string nm, .slice none 0 0]).below hb1 (by simp)
  have HB1 : Hid (Below w.heap.size w w1) := then_ (B := w.heap.size) (by repeat (first | with_reducible exact Below.refl _ _ | with_reducible assumption | refine Below.alloc ?_ (by first | omega | (simp; done) | (simp; omega)) _ | refine Below.setCell ?_ (by first | omega | (simp; done) | (simp; omega)) _ | refine Below.drew ?_ | refine below_drewN ?_ _ | exact Below.refl _ _ | assumption)) hb1 (by simp; omega)
  have HRD := hide (own_rd hown1)
  clear hb1 hown1
  go_wp2_with fail
  go_loopw [25] (fun iv wr => ∃ (k : Nat) (A3 : Option Addr) (c3 : Nat), k ≤ (linesT t).length ∧ k ≤ 20 ∧ iv = .int .i64 (k : Int) ∧ k ≤ c3 ∧ wr.ownsRow w1.heap.size 53 2 (.slice A3 k c3) k (rC ((rulesT t).take k)) ∧ Blk wr (w.heap.size + 1) 26 #[.string nm, .slice A3 k c3] ∧ Tc (fun x => x = w.heap.size + 1) w1 wr ∧ (∀ j (hj : j < (linesT t).length), j < k → (ruleOf (linesT t)[j]).isSome = true)) (fun iv _ => (linesT t).length - (intOf iv).toNat)
  case atStart => exact ⟨0, none, 0, by omega, by omega, rfl, Nat.le_refl _, World.ownsRow_nil _ _ _ _, HP1.out, Tc.refl _ _, fun j _ h => by omega⟩
  case round =>
    obtain ⟨k, A3, c3, hk, hk20, rfl, hkc, ho3, hp3, ht3, hall⟩ := hrel
    have HOW := hide ho3
    have HPW := hide hp3
    have HTW := hide ht3
    have HAL := hide hall
    have HBW : Hid (Below w.heap.size w wr) := ht3.below HB1.out (by omega) (fun x hx => by omega)
    have HRW : Hid (Blk wr w.heap.size 26 #[.string ⟨#[]⟩, .slice none 0 0]) := ht3.blk HR1.out (by omega)
    have hsr := ht3.size
    by_cases hlt : k < (linesT t).length
    · obtain ⟨_, hl0, hcell0⟩ := HRD.out.strAt (k := k) (by omega)
      have hcell : wr.cell? ⟨bl, k, none⟩ = some (.string (prt 10 t)[k]) := (World.cell?_of_block (ht3.block bl hbl2 (by omega))).trans hcell0
      have hsz := HZ.out k (by omega)
      have hlk := HLG.out k hlt (by omega)
      have hgw := hide (hg.up HBW.out)
      have HCUT := hide (cut32_c (prt 10 t)[k] wr hgw.out (by have := HT.out; omega))
      have hrc := ruleOf_cut (prt 10 t)[k]
      have HNONE : Hid ((parseB (cutT (prt 10 t)[k])).2 = false → parP nm t = false) := fun h => by
        refine HBAD.out k hlt ?_
        rw [hlk, hrc, h]; rfl
      have HSOME : Hid ((parseB (cutT (prt 10 t)[k])).2 = true → ruleOf (linesT t)[k] = some (cutG (prt 10 t)[k], ((parseB (cutT (prt 10 t)[k])).1 : Int))) := fun h => by
        show _ = _
        rw [hlk, hrc, h]; rfl
      have HCT : Hid (∀ W : World, Calls Tryd.prog 36 #[.string (cutT (prt 10 t)[k])] W (Pure (.tuple #[.int .i64 ((parseB (cutT (prt 10 t)[k])).1 : Nat), .bool (parseB (cutT (prt 10 t)[k])).2]) W)) := fun W => parseCaps_c _ (by
        have h1 : (cutT (prt 10 t)[k]).size ≤ (prt 10 t)[k].size := by
          show (Lib.cut (prt 10 t)[k].data.toList [32]).2.1.length ≤ (prt 10 t)[k].data.toList.length
          unfold Lib.cut
          split <;> simp
        have := HT.out
        omega) W
      clear hcell0 hrc ho3 hp3 ht3 hall hlk hsz
      generalize parseB (cutT (prt 10 t)[k]) = Q at HNONE HSOME HCT
      obtain ⟨cap, okk⟩ := Q
      have HC := hide hcell
      go_wp2_with fail
      refine HCUT.out.mono ?_
      rintro e w4 ⟨bb, rfl, hb4⟩
      have HB4 := hide hb4
      clear hb4 hcell
      go_wp2_with fail
      refine (HCT.out _).mono ?_
      rintro e w5 ⟨rfl, rfl⟩
      cases okk
      · have HNO := hide (HNONE.out rfl)
        have HBW := hide (then_ HBW.out HB4.out HBW.out.size)
        have HRW := hide (HRW.out.below HB4.out HRW.out.lt)
        have hrw := HRW.out
        have hlw := hrw.lt
        have qR := hrw.cell
        have fR := hrw.frozen
        have HRX := hide ((hrw.set' 0 (.string ⟨#[]⟩)).set' 1 (.slice none 0 0))
        clear hrw
        go_wp2_with fail
        have qS : ∀ i, ((w4.setCell ⟨w.heap.size, 0, none⟩ (.string ⟨#[]⟩)).setCell ⟨w.heap.size, 1, none⟩ (.slice none 0 0)).cell? ⟨w.heap.size, i, none⟩ = (#[.string ⟨#[]⟩, .slice none 0 0] : Array Value)[i]? := HRX.out.cell
        refine bodyPost_ret (v := .tuple #[.agg #[.string ⟨#[]⟩, .slice none 0 0], .bool false]) (by simp [results, Tryd.results10, go_sem, qS]) rfl ?_
        exact RetPP.no HNO.out ((HBW.out.setCell (Nat.le_refl _) _).setCell (Nat.le_refl _) _)
      · have hsome := HSOME.out rfl
        have HP4 := hide (HPW.out.below HB4.out HPW.out.lt)
        have HO4 := hide (own_below HOW.out HB4.out)
        have HT4 := hide (HTW.out.grow HB4.out hsr)
        have hp4 := HP4.out.cell
        have fp4 := HP4.out.frozen
        have hs4 := HB4.out.size
        have HBW4 := hide (then_ HBW.out HB4.out HBW.out.size)
        have HRW4 := hide (HRW.out.below HB4.out HRW.out.lt)
        have HKT : Hid (rC ((rulesT t).take (k + 1)) = rC ((rulesT t).take k) ++ [.string (cutG (prt 10 t)[k]), .int .i64 (cap : Int)]) := by
          show _ = _
          rw [HRT.out k hlt, rC_append, ruleD_of hsome]; rfl
        have HIS : Hid (∀ j (hj : j < (linesT t).length), j < k + 1 → (ruleOf (linesT t)[j]).isSome = true) := fun j hj hjk => by
          by_cases e : j = k
          · subst e; rw [hsome]; rfl
          · exact HAL.out j hj (by omega)
        clear hsome
        by_cases h20 : k = 20
        · have h20' : ((k : Int) == 20) = true := by rw [h20]; rfl
          have HNO := hide (HLONG.out (by omega))
          have HBW := HBW4
          have HRW := HRW4
          have hrw := HRW.out
          have hlw := hrw.lt
          have qR := hrw.cell
          have fR := hrw.frozen
          have HRX := hide ((hrw.set' 0 (.string ⟨#[]⟩)).set' 1 (.slice none 0 0))
          clear hrw
          go_wp2_with fail
          have qS : ∀ i, ((w4.setCell ⟨w.heap.size, 0, none⟩ (.string ⟨#[]⟩)).setCell ⟨w.heap.size, 1, none⟩ (.slice none 0 0)).cell? ⟨w.heap.size, i, none⟩ = (#[.string ⟨#[]⟩, .slice none 0 0] : Array Value)[i]? := HRX.out.cell
          refine bodyPost_ret (v := .tuple #[.agg #[.string ⟨#[]⟩, .slice none 0 0], .bool false]) (by simp [results, Tryd.results10, go_sem, qS]) rfl ?_
          exact RetPP.no HNO.out ((HBW.out.setCell (Nat.le_refl _) _).setCell (Nat.le_refl _) _)
        · have h20' : ((k : Int) == 20) = false := beq_eq_false_iff_ne.2 (by omega)
          have hlp := HP4.out.lt
          go_wp2_with (at_builtin; refine wpList_push w4 rfl (.tmp 50) (.tmp 54) 24 rfl w1.heap.size 53 (.agg #[.string ⟨#[]⟩, .int .i64 0]) 2 24 Tryd.underlying24 info_r rfl (by omega) A3 k c3 _ [.string (cutG (prt 10 t)[k]), .int .i64 (cap : Int)] rfl HO4.out rfl rfl (by simp [Value.oneCell']) (by omega) (by omega) (by omega) ?_; intro A4 c4 w9 hc9 hown9 hg9 _; have hb9 : Below w1.heap.size w4 w9 := grown_below HO4.out hg9 (by omega); have HP9 := hide (HP4.out.below hb9 (by omega)); have cz := HP9.out.cell; have fz := HP9.out.frozen)
          have HT9 := hide (HT4.out.grow hb9 (Nat.le_refl _))
          have HO9 := hide hown9
          clear hown9 hg9 hb9
          try go_wp2_with fail
          refine ⟨⟨k + 1, A4, c4, by omega, by omega, by go_num, hc9, ?_, HP9.out.set' 1 _, HT9.out.set (.inl rfl) _, HIS.out⟩, by simp [intOf]; omega⟩
          rw [HKT.out]
          exact ownsRow_setCell_below HO9.out (by show w.heap.size + 1 < w1.heap.size; omega) _
    · have hkl : k = (linesT t).length := by omega
      have htk : (rulesT t).take k = rulesT t := List.take_of_length_le (by rw [HRL.out]; omega)
      rw [htk] at HOW
      have HKL : Hid (k = (rulesT t).length) := by show k = _; rw [HRL.out]; omega
      have hpa := HALL.out fun j hj => HAL.out j hj (by omega)
      have qP := HPW.out.cell
      have hz : ∀ x ∈ rulesT t, x.1.size < 4294967281 := fun x hx => by have := HRZ.out x hx; have := HT.out; omega
      have CI := isPolicy_c nm A3 c3 (rulesT t) wr (hg.up HBW.out) (by rw [← HKL.out]; exact own_rd HOW.out) hz
      rw [← HKL.out] at CI
      have CI := hide CI
      clear ho3 hp3 ht3 hall htk hkl
      go_wp2_with fail
      refine CI.out.mono ?_
      rintro e w6 ⟨rfl, hb6⟩
      have HB6 := hide hb6
      clear hb6
      cases hpb : polB nm (rulesT t)
      · have HNO : Hid (parP nm t = false) := by show _ = _; rw [hpa, hpb]; rfl
        have HBW := hide (then_ HBW.out HB6.out HBW.out.size)
        have HRW := hide (HRW.out.below HB6.out HRW.out.lt)
        clear hpa hpb qP
        have hrw := HRW.out
        have hlw := hrw.lt
        have qR := hrw.cell
        have fR := hrw.frozen
        have HRX := hide ((hrw.set' 0 (.string ⟨#[]⟩)).set' 1 (.slice none 0 0))
        clear hrw
        go_wp2_with fail
        have qS : ∀ i, ((w6.setCell ⟨w.heap.size, 0, none⟩ (.string ⟨#[]⟩)).setCell ⟨w.heap.size, 1, none⟩ (.slice none 0 0)).cell? ⟨w.heap.size, i, none⟩ = (#[.string ⟨#[]⟩, .slice none 0 0] : Array Value)[i]? := HRX.out.cell
        refine bodyPost_ret (v := .tuple #[.agg #[.string ⟨#[]⟩, .slice none 0 0], .bool false]) (by simp [results, Tryd.results10, go_sem, qS]) rfl ?_
        exact RetPP.no HNO.out ((HBW.out.setCell (Nat.le_refl _) _).setCell (Nat.le_refl _) _)
      · have HP6 := hide (HPW.out.below HB6.out HPW.out.lt)
        have HO6 := hide (own_below HOW.out HB6.out)
        have HBW6 := hide (then_ HBW.out HB6.out HBW.out.size)
        have HRW6 := hide (HRW.out.below HB6.out HRW.out.lt)
        have hpt := policyText_c nm A3 c3 (rulesT t) w6 (by rw [← HKL.out]; exact own_rd HO6.out) (polB_true.1 hpb).2.1 (fun x hx => pol_short hpb hx)
        rw [← HKL.out] at hpt
        have HPT := hide hpt
        have q6 := HP6.out.cell
        have HPA : Hid (parP nm t = decide (textB (rulesT t) = t)) := by show _ = _; rw [hpa, hpb]; rfl
        clear hpt hpa hpb qP
        go_wp2_with fail
        refine HPT.out.mono ?_
        rintro e w7 ⟨rfl, hb7⟩
        have HBW := hide (then_ HBW6.out hb7 HBW6.out.size)
        have HRW := hide (HRW6.out.below hb7 HRW6.out.lt)
        have HPW := hide (HP6.out.below hb7 HP6.out.lt)
        have HOW := hide (own_below HO6.out hb7)
        have hs7 := hb7.size
        have hs6 := HB6.out.size
        clear hb7 q6
        by_cases hte : textB (rulesT t) = t
        · have heq : ((textB (rulesT t)).toList == t.toList) = true := by rw [hte]; simp
          have HOK : Hid (parP nm t = true) := by show _ = _; rw [HPA.out]; exact decide_eq_true hte
          clear hte
          generalize textB (rulesT t) = T at heq ⊢
          have hrw := HRW.out
          have hlw := hrw.lt
          have qR := hrw.cell
          have fR := hrw.frozen
          have qP := HPW.out.cell
          have HRX := hide ((hrw.set' 0 (.string nm)).set' 1 (.slice A3 k c3))
          clear hrw
          go_wp2_with fail
          have qS : ∀ i, ((w7.setCell ⟨w.heap.size, 0, none⟩ (.string nm)).setCell ⟨w.heap.size, 1, none⟩ (.slice A3 k c3)).cell? ⟨w.heap.size, i, none⟩ = (#[.string nm, .slice A3 k c3] : Array Value)[i]? := HRX.out.cell
          refine bodyPost_ret (v := .tuple #[.agg #[.string nm, .slice A3 k c3], .bool true]) (by simp [results, Tryd.results10, go_sem, qS]) rfl ?_
          exact RetPP.ok (HOK.out) HKL.out hkc (own_mono (ownsRow_setCell_below (ownsRow_setCell_below HOW.out (by show w.heap.size < w1.heap.size; omega) _) (by show w.heap.size < w1.heap.size; omega) _) (by omega)) ((HBW.out.setCell (Nat.le_refl _) _).setCell (Nat.le_refl _) _)
        · have heq : ((textB (rulesT t)).toList == t.toList) = false := by
            rw [beq_eq_false_iff_ne, ne_eq]
            intro e
            rw [toL', toL'] at e
            exact hte (ext_data e)
          have HNO : Hid (parP nm t = false) := by show _ = _; rw [HPA.out]; exact decide_eq_false hte
          clear hte
          generalize textB (rulesT t) = T at heq ⊢
          have hrw := HRW.out
          have hlw := hrw.lt
          have qR := hrw.cell
          have fR := hrw.frozen
          have HRX := hide ((hrw.set' 0 (.string ⟨#[]⟩)).set' 1 (.slice none 0 0))
          clear hrw
          go_wp2_with fail
          have qS : ∀ i, ((w7.setCell ⟨w.heap.size, 0, none⟩ (.string ⟨#[]⟩)).setCell ⟨w.heap.size, 1, none⟩ (.slice none 0 0)).cell? ⟨w.heap.size, i, none⟩ = (#[.string ⟨#[]⟩, .slice none 0 0] : Array Value)[i]? := HRX.out.cell
          refine bodyPost_ret (v := .tuple #[.agg #[.string ⟨#[]⟩, .slice none 0 0], .bool false]) (by simp [results, Tryd.results10, go_sem, qS]) rfl ?_
          exact RetPP.no HNO.out ((HBW.out.setCell (Nat.le_refl _) _).setCell (Nat.le_refl _) _)
end Go.Proofs.YtmjmjloiblbhcaaDoor
