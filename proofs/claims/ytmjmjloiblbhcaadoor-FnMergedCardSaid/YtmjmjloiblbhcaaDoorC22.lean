/- Policies merged by the program: what it gives; the contract says for which arguments. -/
import Derived.Test.YtmjmjloiblbhcaaDoorC21
import Derived.Test.YtmjmjloiblbhcaaDoorC6
import Derived.Test.YtmjmjloiblbhcaaDoorC7
namespace Go.Proofs.YtmjmjloiblbhcaaDoor
open Go.RowKit
set_option maxRecDepth 100000
set_option maxHeartbeats 1000000
theorem MergePolicy_i (nA nB : ByteArray) (A B : Option Addr) (cA cB : Nat) (a b : List Rl) (w : World) (hg : GM w) (ha : Rd w w.heap.size 2 A a.length (rC a)) (hb : Rd w w.heap.size 2 B b.length (rC b)) (hza : ∀ x ∈ a, x.1.size < 4294967281) (hzb : ∀ x ∈ b, x.1.size < 4294967281) :
    Calls Tryd.prog 18 #[.agg #[.string nA, .slice A a.length cA], .agg #[.string nB, .slice B b.length cB]] w (RetMg nA nB a b w) := by
  have CA := hide fun (W : World) (h : Below w.heap.size w W) => isPolicy_c nA A cA a W (hg.up h) (ha.up h) hza
  have CB' := hide fun (W : World) (h : Below w.heap.size w W) => isPolicy_c nB B cB b W (hg.up h) (hb.up h) hzb
  have HG := hide fun (W : World) (h : Below w.heap.size w W) => hg.up h
  have HA := hide ha
  have HRB := hide hb
  have HZM := hide (mg_all (P := fun g => g.size < 4294967281) hza hzb)
  clear hg ha hb hza hzb
  go_enter Tryd.func18, Tryd.ntmps18
  go_wp2_with fail
  refine (CA.out _ (by repeat (first | with_reducible exact Below.refl _ _ | with_reducible assumption | refine Below.alloc ?_ (by first | omega | (simp; done) | (simp; omega)) _ | refine Below.setCell ?_ (by first | omega | (simp; done) | (simp; omega)) _ | refine Below.drew ?_ | refine below_drewN ?_ _ | exact Below.refl _ _ | assumption))).mono ?_
  rintro e w1 ⟨rfl, hb1⟩
  have hs1 := hb1.size
  simp only [World.size_alloc] at hs1
  have HL0 : Hid (Blk w1 w.heap.size 26 #[.string nA, .slice A a.length cA]) := (((Blk.new w 26 #[.string nA, .slice A a.length cA]).alloc _).alloc _).below hb1 (by simp; omega)
  have HL1 : Hid (Blk w1 (w.heap.size + 1) 26 #[.string nB, .slice B b.length cB]) := ((Blk.new1 w _ 26 #[.string nB, .slice B b.length cB]).alloc _).below hb1 (by simp)
  have HRX : Hid (Blk w1 (w.heap.size + 1 + 1) 26 #[.string ⟨#[]⟩, .slice none 0 0]) := (Blk.new2 w _ _ 26 #[.string ⟨#[]⟩, .slice none 0 0]).below hb1 (by simp)
  have HB1 : Hid (Below w.heap.size w w1) := then_ (B := w.heap.size) (by repeat (first | with_reducible exact Below.refl _ _ | with_reducible assumption | refine Below.alloc ?_ (by first | omega | (simp; done) | (simp; omega)) _ | refine Below.setCell ?_ (by first | omega | (simp; done) | (simp; omega)) _ | refine Below.drew ?_ | refine below_drewN ?_ _ | exact Below.refl _ _ | assumption)) hb1 (by simp; omega)
  clear hb1
  cases hpa : polB nA a
  · have HNO : Hid (mgOk nA nB a b = false) := by show _ = _; unfold mgOk; rw [hpa]; rfl
    clear hpa
    have hrw := HRX.out
    have hlw := hrw.lt
    have qR := hrw.cell
    have fR := hrw.frozen
    have HRS := hide ((hrw.set' 0 (.string ⟨#[]⟩)).set' 1 (.slice none 0 0))
    clear hrw
    go_wp2_with fail
    have qS : ∀ i, ((w1.setCell ⟨w.heap.size + 1 + 1, 0, none⟩ (.string ⟨#[]⟩)).setCell ⟨w.heap.size + 1 + 1, 1, none⟩ (.slice none 0 0)).cell? ⟨w.heap.size + 1 + 1, i, none⟩ = (#[.string ⟨#[]⟩, .slice none 0 0] : Array Value)[i]? := HRS.out.cell
    refine bodyPost_ret (v := .tuple #[.agg #[.string ⟨#[]⟩, .slice none 0 0], .bool false]) (by simp [results, Tryd.results18, go_sem, qS]) rfl ?_
    exact RetMg.no HNO.out ((HB1.out.setCell (by show w.heap.size ≤ w.heap.size + 1 + 1; omega) _).setCell (by show w.heap.size ≤ w.heap.size + 1 + 1; omega) _)
  have c1 := HL1.out.cell
  go_wp2_with fail
  refine (CB'.out _ HB1.out).mono ?_
  rintro e w2 ⟨rfl, hb2⟩
  have HB2 := hide (then_ HB1.out hb2 HB1.out.size)
  have hs2 := hb2.size
  have HL0 := hide (HL0.out.below hb2 (by omega))
  have HL1 := hide (HL1.out.below hb2 (by omega))
  have HRX := hide (HRX.out.below hb2 (by omega))
  clear hb2 c1 HB1
  cases hpb : polB nB b
  · have HNO : Hid (mgOk nA nB a b = false) := by show _ = _; unfold mgOk; rw [hpb, Bool.and_false]; rfl
    clear hpb hpa
    have hrw := HRX.out
    have hlw := hrw.lt
    have qR := hrw.cell
    have fR := hrw.frozen
    have HRS := hide ((hrw.set' 0 (.string ⟨#[]⟩)).set' 1 (.slice none 0 0))
    clear hrw
    go_wp2_with fail
    have qS : ∀ i, ((w2.setCell ⟨w.heap.size + 1 + 1, 0, none⟩ (.string ⟨#[]⟩)).setCell ⟨w.heap.size + 1 + 1, 1, none⟩ (.slice none 0 0)).cell? ⟨w.heap.size + 1 + 1, i, none⟩ = (#[.string ⟨#[]⟩, .slice none 0 0] : Array Value)[i]? := HRS.out.cell
    refine bodyPost_ret (v := .tuple #[.agg #[.string ⟨#[]⟩, .slice none 0 0], .bool false]) (by simp [results, Tryd.results18, go_sem, qS]) rfl ?_
    exact RetMg.no HNO.out ((HB2.out.setCell (by show w.heap.size ≤ w.heap.size + 1 + 1; omega) _).setCell (by show w.heap.size ≤ w.heap.size + 1 + 1; omega) _)
  have HMG : Hid (mgOk nA nB a b = polB nA (mg a b)) := by show _ = _; unfold mgOk; rw [hpa, hpb]; rfl
  have HSA := hide (pol_srt hpa)
  have hla : a.length ≤ 20 := (polB_true.1 hpa).2.1
  have hlb : b.length ≤ 20 := (polB_true.1 hpb).2.1
  clear hpa hpb CA CB'
  go_upto_region 3 with fail
  go_cut [6] (fun p wx => MgAt w2 nA a p wx)
  case first =>
    have q0 := HL0.out.cell 0
    have q1 := HL0.out.cell 1
    have hlt0 := HL0.out.lt
    go_region_held3 (fun w' => w'.cell? ⟨w.heap.size, 0, none⟩ = some (.string nA) ∧ w'.cell? ⟨w.heap.size, 1, none⟩ = some (.slice A a.length cA)) (exact ⟨cell_oldB (B := w2.heap.size) q0 (by repeat (first | with_reducible exact Below.refl _ _ | with_reducible assumption | refine Below.alloc ?_ (by first | omega | (simp; done) | (simp; omega)) _ | refine Below.setCell ?_ (by first | omega | (simp; done) | (simp; omega)) _ | refine Below.drew ?_ | refine below_drewN ?_ _ | exact Below.refl _ _ | assumption)) (by first | omega | (simp; done) | (simp; omega)), cell_oldB (B := w2.heap.size) q1 (by repeat (first | with_reducible exact Below.refl _ _ | with_reducible assumption | refine Below.alloc ?_ (by first | omega | (simp; done) | (simp; omega)) _ | refine Below.setCell ?_ (by first | omega | (simp; done) | (simp; omega)) _ | refine Below.drew ?_ | refine below_drewN ?_ _ | exact Below.refl _ _ | assumption)) (by first | omega | (simp; done) | (simp; omega))⟩) (first | (go_at_call 41; refine (cloneR_c A cA a _ (HA.out.up (then_ HB2.out (by repeat (first | with_reducible exact Below.refl _ _ | with_reducible assumption | refine Below.alloc ?_ (by first | omega | (simp; done) | (simp; omega)) _ | refine Below.setCell ?_ (by first | omega | (simp; done) | (simp; omega)) _ | refine Below.drew ?_ | refine below_drewN ?_ _ | exact Below.refl _ _ | assumption)) HB2.out.size)) (by omega)).mono ?_; rintro e w3 ⟨A3, c3, rfl, hc3, ho3, hb3⟩; have hT := then_ (w0 := w2) (B := w2.heap.size) (by repeat (first | with_reducible exact Below.refl _ _ | with_reducible assumption | refine Below.alloc ?_ (by first | omega | (simp; done) | (simp; omega)) _ | refine Below.setCell ?_ (by first | omega | (simp; done) | (simp; omega)) _ | refine Below.drew ?_ | refine below_drewN ?_ _ | exact Below.refl _ _ | assumption)) hb3 (by first | omega | (simp; done) | (simp; omega)); have hs3 := hT.size; obtain ⟨hcl, hfr⟩ := bcell hb3))
    all_goals
      go_wp2_with fail
      go_meet
    case rel =>
      refine ⟨w3.heap.size, A3, c3, rfl, hs3, Blk.new _ _ _, hc3, ?_, hT.alloc hs3 _⟩
      exact World.ownsRow.alloc ho3 _
    case rel =>
      have hM : Blk w3 w2.heap.size 26 #[.string ⟨#[]⟩, .slice none 0 0] := (Blk.new w2 26 #[.string ⟨#[]⟩, .slice none 0 0]).drew.below hb3 (by show w2.heap.size < (w2.alloc (.cells #[.string ⟨#[]⟩, .slice none 0 0] 26)).heap.size; simp)
      refine ⟨w2.heap.size, A3, c3, rfl, Nat.le_refl _, (hM.set' 0 (.string nA)).set' 1 (.slice A3 a.length c3), hc3, ?_, (hT.setCell (Nat.le_refl _) _).setCell (Nat.le_refl _) _⟩
      exact own_mono (ownsRow_setCell_below (ownsRow_setCell_below ho3 (by show w2.heap.size < (w2.alloc (.cells #[.string ⟨#[]⟩, .slice none 0 0] 26)).heap.size; simp) _) (by show w2.heap.size < (w2.alloc (.cells #[.string ⟨#[]⟩, .slice none 0 0] 26)).heap.size; simp) _) (by show w2.heap.size ≤ (w2.alloc (.cells #[.string ⟨#[]⟩, .slice none 0 0] 26)).heap.size; simp)
  case rest =>
    obtain ⟨g, A1, c1, rfl, hg2, hbg, hc1, ho1, hbw⟩ := hcut
    have d1 := (HL1.out.below hbw (by omega)).cell 1
    have hzc := hbw.size
    go_wp2_with fail
    clear d1
    go_loopw [29] (fun iv wr => ∃ (k : Nat) (A3 : Option Addr) (c3 : Nat), k ≤ b.length ∧ iv = .int .i64 (k : Int) ∧ (mg a (b.take k)).length ≤ c3 ∧ wr.ownsRow w2.heap.size 53 2 (.slice A3 (mg a (b.take k)).length c3) (mg a (b.take k)).length (rC (mg a (b.take k))) ∧ Blk wr g 26 #[.string nA, .slice A3 (mg a (b.take k)).length c3] ∧ Below w2.heap.size w2 wr) (fun iv _ => b.length - (intOf iv).toNat)
    case atStart => exact ⟨0, A1, c1, by omega, rfl, hc1, ho1, hbg, hbw⟩
    case round =>
      obtain ⟨k, A3, c3, hk, rfl, hkc, ho3, hp3, hb3⟩ := hrel
      have HOW := hide ho3
      have HPW := hide hp3
      have HBW := hide hb3
      have HBX := hide (then_ HB2.out hb3 HB2.out.size)
      have hsr := hb3.size
      have hlg := hp3.lt
      clear ho3 hp3 hb3 hbg ho1 hbw
      by_cases hlt : k < b.length
      · have hmt := mg_take (a := a) hlt
        have hsL : srt (mg a (b.take k)) := mg_srt HSA.out
        have hlL : (mg a (b.take k)).length ≤ 40 := by
          have h1 := mg_length a (b.take k)
          rw [List.length_take] at h1
          omega
        obtain ⟨bb, off, rfl, hblt, hl', hc0, hc1'⟩ := (HRB.out.below HBX.out (Nat.le_refl _)).rule (k := k) hlt
        have HMT := hide hmt
        have HSL := hide hsL
        clear hmt hsL
        generalize mg a (b.take k) = L at HMT HSL hlL HOW HPW hkc
        have p6 := HPW.out.cell
        have HCS := hide (search_c A3 c3 L b[k].1 b[k].2 (wr.alloc (.cells #[.string b[k].1, .int .i64 b[k].2] 53)) ((own_rd HOW.out).up ((Below.refl _ _).alloc (Nat.le_refl _) _)) HSL.out (by omega))
        have a6 : ∀ i, (wr.alloc (.cells #[.string b[k].1, .int .i64 b[k].2] 53)).cell? ⟨g, i, none⟩ = (#[.string nA, .slice A3 L.length c3] : Array Value)[i]? := (HPW.out.alloc _).cell
        have a8 : ∀ i, (wr.alloc (.cells #[.string b[k].1, .int .i64 b[k].2] 53)).cell? ⟨wr.heap.size, i, none⟩ = (#[.string b[k].1, .int .i64 b[k].2] : Array Value)[i]? := (Blk.new wr _ _).cell
        go_wp2_with fail
        refine HCS.out.mono ?_
        rintro e w5 ⟨i, hi, hlo, hhi, rfl, hb5⟩
        have HLO := hide hlo
        have HHI := hide hhi
        have HP5 : Hid (Blk w5 g 26 #[.string nA, .slice A3 L.length c3]) := (HPW.out.alloc _).below hb5 (by simp; omega)
        have HE5 : Hid (Blk w5 wr.heap.size 53 #[.string b[k].1, .int .i64 b[k].2]) := (Blk.new wr _ _).below hb5 (by simp)
        have HO5 : Hid (w5.ownsRow w2.heap.size 53 2 (.slice A3 L.length c3) L.length (rC L)) := own_below (World.ownsRow.alloc HOW.out _) hb5
        have HB5 : Hid (Below w2.heap.size w2 w5) := then_ (HBW.out.alloc hsr _) hb5 (by simp; omega)
        have hs5 := hb5.size
        simp only [World.size_alloc] at hs5
        clear hlo hhi hb5 HCS p6 a6 a8 hc0 hc1'
        have p5 := HP5.out.cell
        have e5 := HE5.out.cell
        cases hf : fndR L i b[k].1
        · have hnew : mg a (b.take (k + 1)) = L.take i ++ b[k] :: L.drop i := by
            rw [HMT.out]
            refine insR_new hi HLO.out fun hil => ⟨HHI.out hil, fun e => ?_⟩
            rw [fndR_in hil, e, (cmpS_zero _ _).2 rfl] at hf
            exact absurd hf (by simp)
          have HNW := hide hnew
          have f5 := HP5.out.frozen
          have p5a : ∀ j, (w5.alloc (.cells #[.string b[k].1, .int .i64 b[k].2] 53)).cell? ⟨g, j, none⟩ = (#[.string nA, .slice A3 L.length c3] : Array Value)[j]? := (HP5.out.alloc _).cell
          have HIN := hide (insert_c w2.heap.size A3 c3 L i b[k] w5.heap.size (w5.alloc (.cells #[.string b[k].1, .int .i64 b[k].2] 53)) (World.ownsRow.alloc HO5.out _) (Blk.new _ _ _) (by simp; omega) (fun x hx e => by
            have h := (HO5.out.lt x.block (by rw [hx]; rfl)).2
            omega) (by omega) hi)
          have HFAR := hide (own_far HO5.out HP5.out)
          clear hnew hf
          go_wp2_with fail
          refine HIN.out.mono ?_
          rintro e w6 ⟨A6, c6, rfl, hc6, ho6, hb6, hk6⟩
          have HP6 : Hid (Blk w6 g 26 #[.string nA, .slice A3 L.length c3]) := (hk6 g (by simp; omega) HFAR.out).trans (HP5.out.alloc _)
          have HO6 := hide ho6
          have HF6 := hide (own_far HO6.out HP6.out)
          have HB6 := hide ((HB5.out.alloc (by omega) _).trans hb6)
          clear ho6 hb6 hk6 p5 p5a f5 HIN
          have p6 := HP6.out.cell
          have f6 := HP6.out.frozen
          have hl6 := HP6.out.lt
          have hlen := ins_length L i b[k]
          go_wp2_with fail
          refine ⟨⟨k + 1, A6, c6, by omega, by go_num, ?_, ?_, ?_, HB6.out.setCell hg2 _⟩, by simp [intOf]; omega⟩
          · rw [HNW.out]; exact hc6
          · rw [HNW.out]
            exact ownsRow_setCell_other HO6.out (by
              intro h
              cases A6 with
              | none => cases h
              | some x =>
                injection h with h
                exact HF6.out x rfl h) _
          · rw [HNW.out, hlen]
            exact HP6.out.set' 1 _
        · have hil : i < L.length := by
            rcases Nat.lt_or_ge i L.length with h | h
            · exact h
            · rw [fndR_out h] at hf; cases hf
          have heq : L[i].1 = b[k].1 := by
            rw [fndR_in hil] at hf
            exact (cmpS_zero _ _).1 (of_decide_eq_true hf)
          have hnew : mg a (b.take (k + 1)) = L.set i (L[i].1, orR L[i].2 b[k].2) := by
            rw [HMT.out]
            exact insR_found hil HLO.out heq
          have HNW := hide hnew
          obtain ⟨gr, rfl, hgr⟩ := own_some HO5.out (by omega)
          have hgl := (own_base HO5.out).2
          have HFAR := hide (own_far HO5.out HP5.out _ rfl)
          have r0 : w5.cell? ⟨gr, i * 2 + 1, none⟩ = some (.int .i64 L[i].2) := (HO5.out.cellAt (i * 2 + 1) (by omega)).trans (rC_get1 L i hil)
          have r1 : w5.drew.cell? ⟨gr, i * 2 + 1, none⟩ = some (.int .i64 L[i].2) := r0
          have r2 : w5.drew.frozen? ⟨gr, i * 2 + 1, none⟩ = false := HO5.out.frozenAt (i * 2 + 1)
          have p5d : ∀ j, w5.drew.cell? ⟨g, j, none⟩ = (#[.string nA, .slice (some ⟨gr, 0, none⟩) L.length c3] : Array Value)[j]? := HP5.out.cell
          have e5d : ∀ j, w5.drew.cell? ⟨wr.heap.size, j, none⟩ = (#[.string b[k].1, .int .i64 b[k].2] : Array Value)[j]? := HE5.out.cell
          have HST : Hid ((w5.setCell ⟨gr, i * 2 + 1, none⟩ (.int .i64 (orR L[i].2 b[k].2))).ownsRow w2.heap.size 53 2 (.slice (some ⟨gr, 0, none⟩) L.length c3) L.length (rC (L.set i (L[i].1, orR L[i].2 b[k].2)))) := by
            have h := (World.ownsRow.stored (w := w5) HO5.out (i * 2 + 1) (.int .i64 (orR L[i].2 b[k].2))).1
            rw [rC_setc hil] at h
            exact h
          clear hnew hf heq
          go_wp2_with fail
          go_region
          all_goals
            go_wp2_with fail
            have hlen : (L.set i (L[i].1, orR L[i].2 b[k].2)).length = L.length := List.length_set
            refine ⟨⟨k + 1, some ⟨gr, 0, none⟩, c3, by omega, by go_num, ?_, ?_, ?_, Below.drew (HB5.out.setCell hgr _)⟩, by simp [intOf]; omega⟩
            · rw [HNW.out, hlen]; exact hkc
            · rw [HNW.out, hlen]; exact HST.out
            · rw [HNW.out, hlen]; exact (HP5.out.far (fun e => HFAR.out e.symm) _).drew
      · have hke : b.take k = b := List.take_of_length_le (by omega)
        rw [hke] at HOW HPW hkc
        clear hke
        have CI := hide (isPolicy_c nA A3 c3 (mg a b) wr (HG.out _ HBX.out) (own_rd HOW.out) HZM.out)
        have p6 := HPW.out.cell
        go_wp2_with fail
        refine CI.out.mono ?_
        rintro e w6 ⟨rfl, hb6⟩
        have HP6 := hide (HPW.out.below hb6 HPW.out.lt)
        have HO6 := hide (own_below HOW.out hb6)
        have HB6 := hide (then_ HBX.out hb6 HBX.out.size)
        have HR6 := hide ((HRX.out.below HBW.out (by omega)).below hb6 (by omega))
        have hs6 := hb6.size
        clear hb6 p6 CI
        have hrw := HR6.out
        have hlw := hrw.lt
        have qR := hrw.cell
        have fR := hrw.frozen
        cases hpm : polB nA (mg a b)
        · have HNO : Hid (mgOk nA nB a b = false) := by show _ = _; rw [HMG.out, hpm]
          have HRS := hide ((hrw.set' 0 (.string ⟨#[]⟩)).set' 1 (.slice none 0 0))
          clear hrw hpm
          go_wp2_with fail
          have qS : ∀ i, ((w6.setCell ⟨w.heap.size + 1 + 1, 0, none⟩ (.string ⟨#[]⟩)).setCell ⟨w.heap.size + 1 + 1, 1, none⟩ (.slice none 0 0)).cell? ⟨w.heap.size + 1 + 1, i, none⟩ = (#[.string ⟨#[]⟩, .slice none 0 0] : Array Value)[i]? := HRS.out.cell
          refine bodyPost_ret (v := .tuple #[.agg #[.string ⟨#[]⟩, .slice none 0 0], .bool false]) (by simp [results, Tryd.results18, go_sem, qS]) rfl ?_
          exact RetMg.no HNO.out ((HB6.out.setCell (by show w.heap.size ≤ w.heap.size + 1 + 1; omega) _).setCell (by show w.heap.size ≤ w.heap.size + 1 + 1; omega) _)
        · have HOK : Hid (mgOk nA nB a b = true) := by show _ = _; rw [HMG.out, hpm]
          have HRS := hide ((hrw.set' 0 (.string nA)).set' 1 (.slice A3 (mg a b).length c3))
          have p6 := HP6.out.cell
          clear hrw hpm
          go_wp2_with fail
          have qS : ∀ i, ((w6.setCell ⟨w.heap.size + 1 + 1, 0, none⟩ (.string nA)).setCell ⟨w.heap.size + 1 + 1, 1, none⟩ (.slice A3 (mg a b).length c3)).cell? ⟨w.heap.size + 1 + 1, i, none⟩ = (#[.string nA, .slice A3 (mg a b).length c3] : Array Value)[i]? := HRS.out.cell
          refine bodyPost_ret (v := .tuple #[.agg #[.string nA, .slice A3 (mg a b).length c3], .bool true]) (by simp [results, Tryd.results18, go_sem, qS]) rfl ?_
          exact RetMg.ok HOK.out rfl hkc (own_mono (ownsRow_setCell_below (ownsRow_setCell_below HO6.out (by show w.heap.size + 1 + 1 < w2.heap.size; omega) _) (by show w.heap.size + 1 + 1 < w2.heap.size; omega) _) (by omega)) ((HB6.out.setCell (by show w.heap.size ≤ w.heap.size + 1 + 1; omega) _).setCell (by show w.heap.size ≤ w.heap.size + 1 + 1; omega) _)
end Go.Proofs.YtmjmjloiblbhcaaDoor
