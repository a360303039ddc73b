/- Policies merged by the reference: what it gives; the contract says for which arguments. -/
import Derived.Test.YtmjmjloiblbhcaaDoorC22
import Derived.Deep.RegionHeld
namespace Go.Proofs.YtmjmjloiblbhcaaDoor
open Go.RowKit
set_option maxRecDepth 100000
set_option maxHeartbeats 8000000
theorem MergePolicy_s (nA nB : ByteArray) (A B : Option Addr) (cA cB : Nat) (a b : List Rl) (w : World) (ha : Rd w w.heap.size 2 A a.length (rC a)) (hb : Rd w w.heap.size 2 B b.length (rC b)) (hza : ∀ x ∈ a, x.1.size < 4294967281) (hzb : ∀ x ∈ b, x.1.size < 4294967281) (hnA : nA.size ≤ 9223372036854775806) (hnB : nB.size ≤ 9223372036854775806) :
    Calls Tryd.prog 16 #[.agg #[.string nA, .slice A a.length cA], .agg #[.string nB, .slice B b.length cB]] w (RetMg nA nB a b w) := by
  have CA := hide fun (W : World) (h : Below w.heap.size w W) => PolicyOk_s nA A cA a W (ha.up h) hza hnA
  have CB' := hide fun (W : World) (h : Below w.heap.size w W) => PolicyOk_s nB B cB b W (hb.up h) hzb hnB
  have HA := hide ha
  have HRB := hide hb
  have CM := hide fun (A3 : Option Addr) (c3 : Nat) (W : World) (h : Rd W W.heap.size 2 A3 (mg a b).length (rC (mg a b))) => PolicyOk_s nA A3 c3 (mg a b) W h (mg_all (P := fun g => g.size < 4294967281) hza hzb) hnA
  clear ha hb hza hzb hnA hnB
  go_enter Tryd.func16, Tryd.ntmps16
  go_wp2_with fail
  refine (CA.out _ (by repeat (first | with_reducible exact Below.refl _ _ | with_reducible assumption | refine Below.alloc ?_ (by first | omega | (simp; done) | (simp; omega)) _ | refine Below.setCell ?_ (by first | omega | (simp; done) | (simp; omega)) _ | refine Below.drew ?_ | refine below_drewN ?_ _ | exact Below.refl _ _ | assumption))).mono ?_
  rintro e w1 ⟨rfl, hb1⟩
  have hs1 := hb1.size
  simp only [World.size_alloc] at hs1
  have HL0 : Hid (Blk w1 w.heap.size 26 #[.string nA, .slice A a.length cA]) := (((Blk.new w 26 #[.string nA, .slice A a.length cA]).alloc _).alloc _).below hb1 (by simp; omega)
  have HL1 : Hid (Blk w1 (w.heap.size + 1) 26 #[.string nB, .slice B b.length cB]) := ((Blk.new1 w _ 26 #[.string nB, .slice B b.length cB]).alloc _).below hb1 (by simp)
  have HRX : Hid (Blk w1 (w.heap.size + 1 + 1) 26 #[.string ⟨#[]⟩, .slice none 0 0]) := (Blk.new2 w _ _ 26 #[.string ⟨#[]⟩, .slice none 0 0]).below hb1 (by simp)
  have HB1 : Hid (Below w.heap.size w w1) := then_ (B := w.heap.size) (by repeat (first | with_reducible exact Below.refl _ _ | with_reducible assumption | refine Below.alloc ?_ (by first | omega | (simp; done) | (simp; omega)) _ | refine Below.setCell ?_ (by first | omega | (simp; done) | (simp; omega)) _ | refine Below.drew ?_ | refine below_drewN ?_ _ | exact Below.refl _ _ | assumption)) hb1 (by simp; omega)
  clear hb1
  cases hpa : polB nA a
  · have HNO : Hid (mgOk nA nB a b = false) := by show _ = _; unfold mgOk; rw [hpa]; rfl
    clear hpa
    have hrw := HRX.out
    have hlw := hrw.lt
    have qR := hrw.cell
    have fR := hrw.frozen
    have HRS := hide ((hrw.set' 0 (.string ⟨#[]⟩)).set' 1 (.slice none 0 0))
    clear hrw
    go_wp2_with fail
    have qS : ∀ i, ((w1.setCell ⟨w.heap.size + 1 + 1, 0, none⟩ (.string ⟨#[]⟩)).setCell ⟨w.heap.size + 1 + 1, 1, none⟩ (.slice none 0 0)).cell? ⟨w.heap.size + 1 + 1, i, none⟩ = (#[.string ⟨#[]⟩, .slice none 0 0] : Array Value)[i]? := HRS.out.cell
    refine bodyPost_ret (v := .tuple #[.agg #[.string ⟨#[]⟩, .slice none 0 0], .bool false]) (by simp [results, Tryd.results16, go_sem, qS]) rfl ?_
    exact RetMg.no HNO.out ((HB1.out.setCell (by show w.heap.size ≤ w.heap.size + 1 + 1; omega) _).setCell (by show w.heap.size ≤ w.heap.size + 1 + 1; omega) _)
  have c1 := HL1.out.cell
  go_wp2_with fail
  refine (CB'.out _ HB1.out).mono ?_
  rintro e w2 ⟨rfl, hb2⟩
  have HB2 := hide (then_ HB1.out hb2 HB1.out.size)
  have hs2 := hb2.size
  have HL0 := hide (HL0.out.below hb2 (by omega))
  have HL1 := hide (HL1.out.below hb2 (by omega))
  have HRX := hide (HRX.out.below hb2 (by omega))
  clear hb2 c1 HB1
  cases hpb : polB nB b
  · have HNO : Hid (mgOk nA nB a b = false) := by show _ = _; unfold mgOk; rw [hpb, Bool.and_false]; rfl
    clear hpb hpa
    have hrw := HRX.out
    have hlw := hrw.lt
    have qR := hrw.cell
    have fR := hrw.frozen
    have HRS := hide ((hrw.set' 0 (.string ⟨#[]⟩)).set' 1 (.slice none 0 0))
    clear hrw
    go_wp2_with fail
    have qS : ∀ i, ((w2.setCell ⟨w.heap.size + 1 + 1, 0, none⟩ (.string ⟨#[]⟩)).setCell ⟨w.heap.size + 1 + 1, 1, none⟩ (.slice none 0 0)).cell? ⟨w.heap.size + 1 + 1, i, none⟩ = (#[.string ⟨#[]⟩, .slice none 0 0] : Array Value)[i]? := HRS.out.cell
    refine bodyPost_ret (v := .tuple #[.agg #[.string ⟨#[]⟩, .slice none 0 0], .bool false]) (by simp [results, Tryd.results16, go_sem, qS]) rfl ?_
    exact RetMg.no HNO.out ((HB2.out.setCell (by show w.heap.size ≤ w.heap.size + 1 + 1; omega) _).setCell (by show w.heap.size ≤ w.heap.size + 1 + 1; omega) _)
  have HMG : Hid (mgOk nA nB a b = polB nA (mg a b)) := by show _ = _; unfold mgOk; rw [hpa, hpb]; rfl
  have HSA := hide (pol_srt hpa)
  have HSB := hide (pol_srt hpb)
  have hla : a.length ≤ 20 := (polB_true.1 hpa).2.1
  have hlb : b.length ≤ 20 := (polB_true.1 hpb).2.1
  clear hpa hpb CA CB'
  have c0 := HL0.out.cell
  have c1 := HL1.out.cell
  go_wp2_with fail
  clear c0 c1
  have HP3 : Hid (Blk (w2.alloc (.cells #[.string nA, .slice none 0 0] 26)) w2.heap.size 26 #[.string nA, .slice none 0 0]) := Blk.new _ _ _
  have HL0 : Hid (Blk (w2.alloc (.cells #[.string nA, .slice none 0 0] 26)) w.heap.size 26 #[.string nA, .slice A a.length cA]) := HL0.out.alloc _
  have HL1 : Hid (Blk (w2.alloc (.cells #[.string nA, .slice none 0 0] 26)) (w.heap.size + 1) 26 #[.string nB, .slice B b.length cB]) := HL1.out.alloc _
  have HRX : Hid (Blk (w2.alloc (.cells #[.string nA, .slice none 0 0] 26)) (w.heap.size + 1 + 1) 26 #[.string ⟨#[]⟩, .slice none 0 0]) := HRX.out.alloc _
  have HB3 : Hid (Below w.heap.size w (w2.alloc (.cells #[.string nA, .slice none 0 0] 26))) := HB2.out.alloc HB2.out.size _
  have hs3 : (w2.alloc (.cells #[.string nA, .slice none 0 0] 26)).heap.size = w2.heap.size + 1 := by simp
  clear HB2
  generalize w2.alloc (.cells #[.string nA, .slice none 0 0] 26) = w3 at HP3 HL0 HL1 HRX HB3 hs3 ⊢
  go_loopw [7, 8] (fun iv kv wr => ∃ (i k : Nat) (m : List Rl) (A3 : Option Addr) (c3 : Nat), i ≤ a.length ∧ k ≤ b.length ∧ iv = .int .i64 (i : Int) ∧ kv = .int .i64 (k : Int) ∧ m.length ≤ i + k ∧ m.length ≤ c3 ∧ wr.ownsRow w3.heap.size 53 2 (.slice A3 m.length c3) m.length (rC m) ∧ Blk wr w2.heap.size 26 #[.string nA, .slice A3 m.length c3] ∧ Tc (fun x => x = w2.heap.size) w3 wr ∧ m ++ mg (a.drop i) (b.drop k) = mg a b) (fun iv kv _ => (a.length - (intOf iv).toNat) + (b.length - (intOf kv).toNat))
  case atStart => exact ⟨0, 0, [], none, 0, by omega, by omega, rfl, rfl, by simp, Nat.le_refl _, World.ownsRow_nil _ _ _ _, HP3.out, Tc.refl _ _, rfl⟩
  case round =>
    obtain ⟨i, k, m, A3, c3, hi, hk, rfl, rfl, hm, hmc, ho3, hp3, ht3, hmg⟩ := hrel
    have HOW := hide ho3
    have HPW := hide hp3
    have HTW := hide ht3
    have HMM := hide hmg
    have HBW : Hid (Below w.heap.size w wr) := ht3.below' HB3.out (by omega) (fun x hx => by omega)
    have HR0 := hide (ht3.blk HL0.out (by omega))
    have HR1 := hide (ht3.blk HL1.out (by omega))
    have HRW := hide (ht3.blk HRX.out (by omega))
    have hsr := ht3.size
    clear ho3 hp3 ht3 hmg
    have c0 := HR0.out.cell
    have c1 := HR1.out.cell
    have q0 : ∀ z : After wr.heap.size wr, ∀ j, z.w.cell? ⟨w.heap.size, j, none⟩ = (#[.string nA, .slice A a.length cA] : Array Value)[j]? := fun z => (HR0.out.below z.below HR0.out.lt).cell
    have q1 : ∀ z : After wr.heap.size wr, ∀ j, z.w.cell? ⟨w.heap.size + 1, j, none⟩ = (#[.string nB, .slice B b.length cB] : Array Value)[j]? := fun z => (HR1.out.below z.below HR1.out.lt).cell
    by_cases hia : i < a.length
    · have hda : decide ((i : Int) < (a.length : Int)) = true := by simp; omega
      have hqa : ((i : Int) == (a.length : Int)) = false := beq_eq_false_iff_ne.2 (by omega)
      obtain ⟨ba, offa, rfl, hbla, hla', ha0, ha1⟩ := (HA.out.below HBW.out (Nat.le_refl _)).rule (k := i) hia
      have qa0 : ∀ z : After wr.heap.size wr, z.w.cell? ⟨ba, offa + i * 2, none⟩ = some (.string a[i].1) := fun z => z.cell ha0 (by omega)
      by_cases hkb : k < b.length
      · have hdb : decide ((k : Int) < (b.length : Int)) = true := by simp; omega
        have hqb : ((k : Int) == (b.length : Int)) = false := beq_eq_false_iff_ne.2 (by omega)
        obtain ⟨bb, offb, rfl, hblb, hlb', hb0, hb1'⟩ := (HRB.out.below HBW.out (Nat.le_refl _)).rule (k := k) hkb
        have qb0 : ∀ z : After wr.heap.size wr, z.w.cell? ⟨bb, offb + k * 2, none⟩ = some (.string b[k].1) := fun z => z.cell hb0 (by omega)
        have HA0 := hide ha0
        have HA1 := hide ha1
        have HB0 := hide hb0
        have HB1 := hide hb1'
        clear ha0 ha1 hb0 hb1'
        cases hab : ltB a[i].1 b[k].1
        · have hab' : Op.bytesLess a[i].1.toList b[k].1.toList = false := hab
          cases hba : ltB b[k].1 a[i].1
          · have hba' : Op.bytesLess b[k].1.toList a[i].1.toList = false := hba
            have HST := hide (mg_stepC (a := a) (b := b) HSB.out hia hkb (ltB_tri hab hba))
            clear hab hba
            go_wp2_with fail
            refine wp_region_after wr.heap.size (by kernel_rfl) (by kernel_rfl) ?_
            repeat (go_big_quiet_step (fail))
            refine wpQuiet_nil ?_
            rintro w5 ⟨x_w5, e_w5⟩
            have hb5 := x_w5.below
            rw [← e_w5] at hb5
            clear e_w5 x_w5
            have hs5 := hb5.size
            have u0 : ∀ z : After w5.heap.size w5, ∀ j, z.w.cell? ⟨w.heap.size, j, none⟩ = (#[.string nA, .slice (some ⟨ba, offa, none⟩) a.length cA] : Array Value)[j]? := fun z => ((HR0.out.below hb5 HR0.out.lt).below z.below (Nat.lt_of_lt_of_le HR0.out.lt hs5)).cell
            have u1 : ∀ z : After w5.heap.size w5, ∀ j, z.w.cell? ⟨w.heap.size + 1, j, none⟩ = (#[.string nB, .slice (some ⟨bb, offb, none⟩) b.length cB] : Array Value)[j]? := fun z => ((HR1.out.below hb5 HR1.out.lt).below z.below (Nat.lt_of_lt_of_le HR1.out.lt hs5)).cell
            have ua0 : ∀ z : After w5.heap.size w5, z.w.cell? ⟨ba, offa + i * 2, none⟩ = some (.string a[i].1) := fun z => z.cell (cell_oldB HA0.out hb5 (Nat.lt_of_lt_of_le hbla HBW.out.size)) (by omega)
            have ub0 : ∀ z : After w5.heap.size w5, z.w.cell? ⟨bb, offb + k * 2, none⟩ = some (.string b[k].1) := fun z => z.cell (cell_oldB HB0.out hb5 (Nat.lt_of_lt_of_le hblb HBW.out.size)) (by omega)
            clear q0 q1 c0 c1 qa0 qb0
            go_wp2_with fail
            refine wp_region_after w5.heap.size (by kernel_rfl) (by kernel_rfl) ?_
            repeat (go_big_quiet_step (fail))
            refine wpQuiet_nil ?_
            rintro w6 ⟨x_w6, e_w6⟩
            have hb6 := x_w6.below
            rw [← e_w6] at hb6
            clear e_w6 x_w6
            replace hb6 : Below wr.heap.size wr w6 := then_ hb5 hb6 hs5
            have HPV := hide (HPW.out.below hb6 HPW.out.lt)
            have HOV := hide (own_below HOW.out hb6)
            have HTV := hide (HTW.out.grow hb6 hsr)
            have hsV := hb6.size
            have v6 : w6.cell? ⟨w2.heap.size, 1, none⟩ = some (.slice A3 m.length c3) := HPV.out.cell 1
            have fv6 := HPV.out.frozen
            have hlp := HPV.out.lt
            have v0 := (HR0.out.below hb6 HR0.out.lt).cell
            have va0 := cell_oldB HA0.out hb6 (Nat.lt_of_lt_of_le hbla HBW.out.size)
            have va1 := cell_oldB HA1.out hb6 (Nat.lt_of_lt_of_le hbla HBW.out.size)
            have v1 := (HR1.out.below hb6 HR1.out.lt).cell
            have vb0 := cell_oldB HB0.out hb6 (Nat.lt_of_lt_of_le hblb HBW.out.size)
            have vb1 := cell_oldB HB1.out hb6 (Nat.lt_of_lt_of_le hblb HBW.out.size)
            have vq : (w6.drew.alloc (.cells #[.string a[i].1, .int .i64 (orR a[i].2 b[k].2)] 53)).cell? ⟨w2.heap.size, 1, none⟩ = some (.slice A3 m.length c3) := cell_al (w := w6.drew) v6 hlp _
            clear hb6
            go_wp2_with fail
            have z0 := v0 1
            have z1 := v1 1
            have hla2 : ba < w2.heap.size := by omega
            have hlb2 : bb < w2.heap.size := by omega
            clear v0 v1 vb0
            refine wp_region_held_drew (S := (fun w' => w'.cell? ⟨w.heap.size, 1, none⟩ = some (.slice (some ⟨ba, offa, none⟩) a.length cA) ∧ w'.cell? ⟨w.heap.size + 1, 1, none⟩ = some (.slice (some ⟨bb, offb, none⟩) b.length cB) ∧ w'.cell? ⟨ba, offa + i * 2, none⟩ = some (.string a[i].1) ∧ w'.cell? ⟨ba, offa + i * 2 + 1, none⟩ = some (.int .i64 a[i].2) ∧ w'.cell? ⟨bb, offb + k * 2 + 1, none⟩ = some (.int .i64 b[k].2))) (by kernel_rfl) ?_ (fun hHeld => ?_)
            · exact ⟨cell_oldB (B := w2.heap.size) z0 (by repeat (first | with_reducible exact Below.refl _ _ | with_reducible assumption | refine Below.alloc ?_ (by first | omega | (simp; done) | (simp; omega)) _ | refine Below.setCell ?_ (by first | omega | (simp; done) | (simp; omega)) _ | refine Below.drew ?_ | refine below_drewN ?_ _ | exact Below.refl _ _ | assumption)) (by first | omega | (simp; done) | (simp; omega)), cell_oldB (B := w2.heap.size) z1 (by repeat (first | with_reducible exact Below.refl _ _ | with_reducible assumption | refine Below.alloc ?_ (by first | omega | (simp; done) | (simp; omega)) _ | refine Below.setCell ?_ (by first | omega | (simp; done) | (simp; omega)) _ | refine Below.drew ?_ | refine below_drewN ?_ _ | exact Below.refl _ _ | assumption)) (by first | omega | (simp; done) | (simp; omega)), cell_oldB (B := w2.heap.size) va0 (by repeat (first | with_reducible exact Below.refl _ _ | with_reducible assumption | refine Below.alloc ?_ (by first | omega | (simp; done) | (simp; omega)) _ | refine Below.setCell ?_ (by first | omega | (simp; done) | (simp; omega)) _ | refine Below.drew ?_ | refine below_drewN ?_ _ | exact Below.refl _ _ | assumption)) hla2, cell_oldB (B := w2.heap.size) va1 (by repeat (first | with_reducible exact Below.refl _ _ | with_reducible assumption | refine Below.alloc ?_ (by first | omega | (simp; done) | (simp; omega)) _ | refine Below.setCell ?_ (by first | omega | (simp; done) | (simp; omega)) _ | refine Below.drew ?_ | refine below_drewN ?_ _ | exact Below.refl _ _ | assumption)) hla2, cell_oldB (B := w2.heap.size) vb1 (by repeat (first | with_reducible exact Below.refl _ _ | with_reducible assumption | refine Below.alloc ?_ (by first | omega | (simp; done) | (simp; omega)) _ | refine Below.setCell ?_ (by first | omega | (simp; done) | (simp; omega)) _ | refine Below.drew ?_ | refine below_drewN ?_ _ | exact Below.refl _ _ | assumption)) hlb2⟩
            refine wpAnyH_take (i := 0) (v := ?_) rfl (by kernel_rfl) (by kernel_rfl) (by kernel_rfl) (fun _ _ _ h => h) (Or.inl ⟨by rfl, ?_⟩) (by assumption) ?_
            rotate_left
            · intro wz hSw
              try dsimp only at hSw
              go_simp
              try with_reducible rfl
            try simp only [Act.put, List.setIfInBounds_toArray, List.set_cons_zero, List.set_cons_succ, List.getElem_toArray, List.getElem_cons_zero]
            refine wpAnyH_take (i := 2) (v := ?_) rfl (by kernel_rfl) (by kernel_rfl) (by kernel_rfl) (fun _ _ _ h => h) (Or.inl ⟨by rfl, ?_⟩) (by assumption) ?_
            rotate_left
            · intro wz hSw
              try dsimp only at hSw
              go_simp
              try with_reducible rfl
            try simp only [Act.put, List.setIfInBounds_toArray, List.set_cons_zero, List.set_cons_succ, List.getElem_toArray, List.getElem_cons_zero, List.getElem_cons_succ]
            refine wpAnyH_take (i := 3) (v := ?_) rfl (by kernel_rfl) (by kernel_rfl) (by kernel_rfl) (fun _ _ _ h => h) (Or.inl ⟨by rfl, ?_⟩) (by assumption) ?_
            rotate_left
            · intro wz hSw
              try dsimp only at hSw
              go_simp
              try with_reducible rfl
            try simp only [Act.put, List.setIfInBounds_toArray, List.set_cons_zero, List.set_cons_succ, List.getElem_toArray, List.getElem_cons_zero, List.getElem_cons_succ]
            refine wpAnyH_take (i := 4) (v := ?_) rfl (by kernel_rfl) (by kernel_rfl) (by kernel_rfl) (fun _ _ _ h => h) (Or.inl ⟨by rfl, ?_⟩) (by assumption) ?_
            rotate_left
            · intro wz hSw
              try dsimp only at hSw
              go_simp
              try with_reducible rfl
            try simp only [Act.put, List.setIfInBounds_toArray, List.set_cons_zero, List.set_cons_succ, List.getElem_toArray, List.getElem_cons_zero, List.getElem_cons_succ]
            refine wpAnyH_take (i := 5) (v := ?_) rfl (by kernel_rfl) (by kernel_rfl) (by kernel_rfl) (fun _ _ _ h => h) (Or.inl ⟨by rfl, ?_⟩) (by assumption) ?_
            rotate_left
            · intro wz hSw
              try dsimp only at hSw
              go_simp
              try with_reducible rfl
            try simp only [Act.put, List.setIfInBounds_toArray, List.set_cons_zero, List.set_cons_succ, List.getElem_toArray, List.getElem_cons_zero, List.getElem_cons_succ]
            refine wpAnyH_take (i := 6) (v := ?_) rfl (by kernel_rfl) (by kernel_rfl) (by kernel_rfl) (fun _ _ _ h => h) (Or.inl ⟨by rfl, ?_⟩) (by assumption) ?_
            rotate_left
            · intro wz hSw
              try dsimp only at hSw
              go_simp
              try with_reducible rfl
            try simp only [Act.put, List.setIfInBounds_toArray, List.set_cons_zero, List.set_cons_succ, List.getElem_toArray, List.getElem_cons_zero, List.getElem_cons_succ]
            refine wpAnyH_take (i := 7) (v := ?_) rfl (by kernel_rfl) (by kernel_rfl) (by kernel_rfl) (fun _ _ _ h => h) (Or.inl ⟨by rfl, ?_⟩) (by assumption) ?_
            rotate_left
            · intro wz hSw
              try dsimp only at hSw
              go_simp
              try with_reducible rfl
            try simp only [Act.put, List.setIfInBounds_toArray, List.set_cons_zero, List.set_cons_succ, List.getElem_toArray, List.getElem_cons_zero, List.getElem_cons_succ]
            refine wpAnyH_take (i := 8) (v := ?_) rfl (by kernel_rfl) (by kernel_rfl) (by kernel_rfl) (fun _ _ _ h => h) (Or.inl ⟨by rfl, ?_⟩) (by assumption) ?_
            rotate_left
            · intro wz hSw
              try dsimp only at hSw
              go_simp
              try with_reducible rfl
            try simp only [Act.put, List.setIfInBounds_toArray, List.set_cons_zero, List.set_cons_succ, List.getElem_toArray, List.getElem_cons_zero, List.getElem_cons_succ]
            refine wpAnyH_take (i := 9) (v := ?_) rfl (by kernel_rfl) (by kernel_rfl) (by kernel_rfl) (fun _ _ _ h => h) (Or.inl ⟨by rfl, ?_⟩) (by assumption) ?_
            rotate_left
            · intro wz hSw
              try dsimp only at hSw
              go_simp
              try with_reducible rfl
            try simp only [Act.put, List.setIfInBounds_toArray, List.set_cons_zero, List.set_cons_succ, List.getElem_toArray, List.getElem_cons_zero, List.getElem_cons_succ]
            refine wpAnyH_take (i := 10) (v := ?_) rfl (by kernel_rfl) (by kernel_rfl) (by kernel_rfl) (fun _ _ _ h => h) (Or.inl ⟨by rfl, ?_⟩) (by assumption) ?_
            rotate_left
            · intro wz hSw
              try dsimp only at hSw
              go_simp
              try with_reducible rfl
            try simp only [Act.put, List.setIfInBounds_toArray, List.set_cons_zero, List.set_cons_succ, List.getElem_toArray, List.getElem_cons_zero, List.getElem_cons_succ]
            refine wpAnyH_take (i := 11) (v := ?_) rfl (by kernel_rfl) (by kernel_rfl) (by kernel_rfl) (fun _ _ _ h => h) (Or.inl ⟨by rfl, ?_⟩) (by assumption) ?_
            rotate_left
            · intro wz hSw
              try dsimp only at hSw
              go_simp
              try with_reducible rfl
            try simp only [Act.put, List.setIfInBounds_toArray, List.set_cons_zero, List.set_cons_succ, List.getElem_toArray, List.getElem_cons_zero, List.getElem_cons_succ]
            refine wpAnyH_take (i := 12) (v := ?_) rfl (by kernel_rfl) (by kernel_rfl) (by kernel_rfl) (fun _ _ _ h => h) (Or.inl ⟨by rfl, ?_⟩) (by assumption) ?_
            rotate_left
            · intro wz hSw
              try dsimp only at hSw
              go_simp
              try with_reducible rfl
            try simp only [Act.put, List.setIfInBounds_toArray, List.set_cons_zero, List.set_cons_succ, List.getElem_toArray, List.getElem_cons_zero, List.getElem_cons_succ]
            refine wpAnyH_take (i := 13) (v := ?_) rfl (by kernel_rfl) (by kernel_rfl) (by kernel_rfl) (fun _ _ _ h => h) (Or.inl ⟨by rfl, ?_⟩) (by assumption) ?_
            rotate_left
            · intro wz hSw
              try dsimp only at hSw
              go_simp
              try with_reducible rfl
            try simp only [Act.put, List.setIfInBounds_toArray, List.set_cons_zero, List.set_cons_succ, List.getElem_toArray, List.getElem_cons_zero, List.getElem_cons_succ]
            refine wpAnyH_take (i := 14) (v := ?_) rfl (by kernel_rfl) (by kernel_rfl) (by kernel_rfl) (fun _ _ _ h => h) (Or.inl ⟨by rfl, ?_⟩) (by assumption) ?_
            rotate_left
            · intro wz hSw
              try dsimp only at hSw
              go_simp
              try with_reducible rfl
            try simp only [Act.put, List.setIfInBounds_toArray, List.set_cons_zero, List.set_cons_succ, List.getElem_toArray, List.getElem_cons_zero, List.getElem_cons_succ]
            refine wpAnyH_take (i := 15) (v := ?_) rfl (by kernel_rfl) (by kernel_rfl) (by kernel_rfl) (fun _ _ _ h => h) (Or.inl ⟨by rfl, ?_⟩) (by assumption) ?_
            rotate_left
            · intro wz hSw
              try dsimp only at hSw
              go_simp
              try with_reducible rfl
            try simp only [Act.put, List.setIfInBounds_toArray, List.set_cons_zero, List.set_cons_succ, List.getElem_toArray, List.getElem_cons_zero, List.getElem_cons_succ]
            refine wpAnyH_take (i := 16) (v := ?_) rfl (by kernel_rfl) (by kernel_rfl) (by kernel_rfl) (fun _ _ _ h => h) (Or.inl ⟨by rfl, ?_⟩) (by assumption) ?_
            rotate_left
            · intro wz hSw
              try dsimp only at hSw
              go_simp
              try with_reducible rfl
            try simp only [Act.put, List.setIfInBounds_toArray, List.set_cons_zero, List.set_cons_succ, List.getElem_toArray, List.getElem_cons_zero, List.getElem_cons_succ]
            refine wpAnyH_take (i := 17) (v := ?_) rfl (by kernel_rfl) (by kernel_rfl) (by kernel_rfl) (fun _ _ _ h => h) (Or.inl ⟨by rfl, ?_⟩) (by assumption) ?_
            rotate_left
            · intro wz hSw
              try dsimp only at hSw
              go_simp
              try with_reducible rfl
            try simp only [Act.put, List.setIfInBounds_toArray, List.set_cons_zero, List.set_cons_succ, List.getElem_toArray, List.getElem_cons_zero, List.getElem_cons_succ]
            refine wpAnyH_take (i := 18) (v := ?_) rfl (by kernel_rfl) (by kernel_rfl) (by kernel_rfl) (fun _ _ _ h => h) (Or.inl ⟨by rfl, ?_⟩) (by assumption) ?_
            rotate_left
            · intro wz hSw
              try dsimp only at hSw
              go_simp
              try with_reducible rfl
            try simp only [Act.put, List.setIfInBounds_toArray, List.set_cons_zero, List.set_cons_succ, List.getElem_toArray, List.getElem_cons_zero, List.getElem_cons_succ]
            refine wpAnyH_take (i := 19) (v := ?_) rfl (by kernel_rfl) (by kernel_rfl) (by kernel_rfl) (fun _ _ _ h => h) (Or.inl ⟨by rfl, ?_⟩) (by assumption) ?_
            rotate_left
            · intro wz hSw
              try dsimp only at hSw
              go_simp
              try with_reducible rfl
            try simp only [Act.put, List.setIfInBounds_toArray, List.set_cons_zero, List.set_cons_succ, List.getElem_toArray, List.getElem_cons_zero, List.getElem_cons_succ]
            refine wpAnyH_take (i := 20) (v := ?_) rfl (by kernel_rfl) (by kernel_rfl) (by kernel_rfl) (fun _ _ _ h => h) (Or.inl ⟨by rfl, ?_⟩) (by assumption) ?_
            rotate_left
            · intro wz hSw
              try dsimp only at hSw
              go_simp
              try with_reducible rfl
            try simp only [Act.put, List.setIfInBounds_toArray, List.set_cons_zero, List.set_cons_succ, List.getElem_toArray, List.getElem_cons_zero, List.getElem_cons_succ]
            refine wpAnyH_take (i := 21) (v := ?_) rfl (by kernel_rfl) (by kernel_rfl) (by kernel_rfl) (fun _ _ _ h => h) (Or.inl ⟨by rfl, ?_⟩) (by assumption) ?_
            rotate_left
            · intro wz hSw
              try dsimp only at hSw
              go_simp
              try with_reducible rfl
            try simp only [Act.put, List.setIfInBounds_toArray, List.set_cons_zero, List.set_cons_succ, List.getElem_toArray, List.getElem_cons_zero, List.getElem_cons_succ]
            refine wpAnyH_ready (rs := [1, 22]) (by kernel_rfl) (by simp) ?_
            refine AllReadyH.cons rfl (fun K hK => ?_) (AllReadyH.cons rfl (fun K hK => ?_) AllReadyH.nil)
            · try simp only [List.getElem_toArray, List.getElem_cons_zero, List.getElem_cons_succ]
              go_simp
              refine hK.out _ _ hHeld (fun _ => ?_)
              clear hK K
              try simp only [Act.put, List.setIfInBounds_toArray, List.set_cons_zero, List.set_cons_succ, List.getElem_toArray, List.getElem_cons_zero, List.getElem_cons_succ]
              refine wpAnyH_ready (rs := [22]) (by kernel_rfl) (by simp) ?_
              refine AllReadyH.cons rfl (fun K hK => ?_) AllReadyH.nil
              try simp only [List.getElem_toArray, List.getElem_cons_zero, List.getElem_cons_succ]
              go_simp
              refine hK.out _ _ ?_ (fun hHeld2 => ?_)
              · exact ⟨cell_oldB (B := w2.heap.size) z0 (by repeat (first | with_reducible exact Below.refl _ _ | with_reducible assumption | refine Below.alloc ?_ (by first | omega | (simp; done) | (simp; omega)) _ | refine Below.setCell ?_ (by first | omega | (simp; done) | (simp; omega)) _ | refine Below.drew ?_ | refine below_drewN ?_ _ | exact Below.refl _ _ | assumption)) (by first | omega | (simp; done) | (simp; omega)), cell_oldB (B := w2.heap.size) z1 (by repeat (first | with_reducible exact Below.refl _ _ | with_reducible assumption | refine Below.alloc ?_ (by first | omega | (simp; done) | (simp; omega)) _ | refine Below.setCell ?_ (by first | omega | (simp; done) | (simp; omega)) _ | refine Below.drew ?_ | refine below_drewN ?_ _ | exact Below.refl _ _ | assumption)) (by first | omega | (simp; done) | (simp; omega)), cell_oldB (B := w2.heap.size) va0 (by repeat (first | with_reducible exact Below.refl _ _ | with_reducible assumption | refine Below.alloc ?_ (by first | omega | (simp; done) | (simp; omega)) _ | refine Below.setCell ?_ (by first | omega | (simp; done) | (simp; omega)) _ | refine Below.drew ?_ | refine below_drewN ?_ _ | exact Below.refl _ _ | assumption)) hla2, cell_oldB (B := w2.heap.size) va1 (by repeat (first | with_reducible exact Below.refl _ _ | with_reducible assumption | refine Below.alloc ?_ (by first | omega | (simp; done) | (simp; omega)) _ | refine Below.setCell ?_ (by first | omega | (simp; done) | (simp; omega)) _ | refine Below.drew ?_ | refine below_drewN ?_ _ | exact Below.refl _ _ | assumption)) hla2, cell_oldB (B := w2.heap.size) vb1 (by repeat (first | with_reducible exact Below.refl _ _ | with_reducible assumption | refine Below.alloc ?_ (by first | omega | (simp; done) | (simp; omega)) _ | refine Below.setCell ?_ (by first | omega | (simp; done) | (simp; omega)) _ | refine Below.drew ?_ | refine below_drewN ?_ _ | exact Below.refl _ _ | assumption)) hlb2⟩
              clear hK K
              try simp only [Act.put, List.setIfInBounds_toArray, List.set_cons_zero, List.set_cons_succ, List.getElem_toArray, List.getElem_cons_zero, List.getElem_cons_succ]
              refine wpAnyH_ready (rs := [23]) (by kernel_rfl) (by simp) ?_
              refine AllReadyH.cons rfl (fun K hK => ?_) AllReadyH.nil
              try simp only [List.getElem_toArray, List.getElem_cons_zero, List.getElem_cons_succ]
              rw [show (w6.alloc (Obj.cells #[Value.string a[i].1, Value.int .i64 (bits .or .i64 a[i].2 b[k].2)] 53)).drew = w6.drew.alloc (.cells #[Value.string a[i].1, Value.int .i64 (orR a[i].2 b[k].2)] 53) from rfl]
              rw [if_pos (by rfl)]
              refine push_wp w6.drew (by rfl) (.tmp 105) (.tmp 126) 24 (by rfl) w3.heap.size 53 (.agg #[.string ⟨#[]⟩, .int .i64 0]) 2 24 Tryd.underlying24 info_r rfl (by omega) A3 m.length c3 _ [.string a[i].1, .int .i64 (orR a[i].2 b[k].2)] (by rfl) HOV.out (by rfl) rfl (by simp [Value.oneCell']) (by omega) (by omega) (by show w3.heap.size ≤ w6.heap.size; omega) ?_; intro A9 c9 w9 hc9 hown9 hg9 _; have hb90 := grown_below (wr := w6.drew) HOV.out hg9 (by show w3.heap.size ≤ w6.heap.size; omega); have hb9 : Below w3.heap.size w6 w9 := ⟨hb90.os, hb90.tape, hb90.output, hb90.size, hb90.block⟩; have HP9 := HPV.out.below hb9 (by omega); have hb9' := hb9.mono (show w2.heap.size ≤ w3.heap.size by omega); have cz := HP9.cell; have fz := HP9.frozen
              refine hK.out _ _ ?_ (fun hHeld3 => ?_)
              · exact ⟨cell_oldB (B := w2.heap.size) z0 (by repeat (first | with_reducible exact Below.refl _ _ | with_reducible assumption | refine Below.alloc ?_ (by first | omega | (simp; done) | (simp; omega)) _ | refine Below.setCell ?_ (by first | omega | (simp; done) | (simp; omega)) _ | refine Below.drew ?_ | refine below_drewN ?_ _ | exact Below.refl _ _ | assumption)) (by first | omega | (simp; done) | (simp; omega)), cell_oldB (B := w2.heap.size) z1 (by repeat (first | with_reducible exact Below.refl _ _ | with_reducible assumption | refine Below.alloc ?_ (by first | omega | (simp; done) | (simp; omega)) _ | refine Below.setCell ?_ (by first | omega | (simp; done) | (simp; omega)) _ | refine Below.drew ?_ | refine below_drewN ?_ _ | exact Below.refl _ _ | assumption)) (by first | omega | (simp; done) | (simp; omega)), cell_oldB (B := w2.heap.size) va0 (by repeat (first | with_reducible exact Below.refl _ _ | with_reducible assumption | refine Below.alloc ?_ (by first | omega | (simp; done) | (simp; omega)) _ | refine Below.setCell ?_ (by first | omega | (simp; done) | (simp; omega)) _ | refine Below.drew ?_ | refine below_drewN ?_ _ | exact Below.refl _ _ | assumption)) hla2, cell_oldB (B := w2.heap.size) va1 (by repeat (first | with_reducible exact Below.refl _ _ | with_reducible assumption | refine Below.alloc ?_ (by first | omega | (simp; done) | (simp; omega)) _ | refine Below.setCell ?_ (by first | omega | (simp; done) | (simp; omega)) _ | refine Below.drew ?_ | refine below_drewN ?_ _ | exact Below.refl _ _ | assumption)) hla2, cell_oldB (B := w2.heap.size) vb1 (by repeat (first | with_reducible exact Below.refl _ _ | with_reducible assumption | refine Below.alloc ?_ (by first | omega | (simp; done) | (simp; omega)) _ | refine Below.setCell ?_ (by first | omega | (simp; done) | (simp; omega)) _ | refine Below.drew ?_ | refine below_drewN ?_ _ | exact Below.refl _ _ | assumption)) hlb2⟩
              clear hK K
              try simp only [Act.put, List.setIfInBounds_toArray, List.set_cons_zero, List.set_cons_succ]
              refine wpAnyH_take (i := 24) (v := ?_) rfl (by kernel_rfl) (by kernel_rfl) (by kernel_rfl) (fun _ _ _ h => h) (Or.inl ⟨by rfl, ?_⟩) (by assumption) ?_
              rotate_left
              · intro wz hSw
                try dsimp only at hSw
                go_simp
                try with_reducible rfl
              try simp only [Act.put, List.setIfInBounds_toArray, List.set_cons_zero, List.set_cons_succ, List.getElem_toArray, List.getElem_cons_zero, List.getElem_cons_succ]
              refine wpAnyH_ready (rs := [25]) (by kernel_rfl) (by simp) ?_
              refine AllReadyH.cons rfl (fun K hK => ?_) AllReadyH.nil
              try simp only [List.getElem_toArray, List.getElem_cons_zero, List.getElem_cons_succ]
              go_simp
              refine hK.out _ _ ?_ (fun hHeld4 => ?_)
              · exact ⟨cell_oldB (B := w2.heap.size) z0 (by repeat (first | with_reducible exact Below.refl _ _ | with_reducible assumption | refine Below.alloc ?_ (by first | omega | (simp; done) | (simp; omega)) _ | refine Below.setCell ?_ (by first | omega | (simp; done) | (simp; omega)) _ | refine Below.drew ?_ | refine below_drewN ?_ _ | exact Below.refl _ _ | assumption)) (by first | omega | (simp; done) | (simp; omega)), cell_oldB (B := w2.heap.size) z1 (by repeat (first | with_reducible exact Below.refl _ _ | with_reducible assumption | refine Below.alloc ?_ (by first | omega | (simp; done) | (simp; omega)) _ | refine Below.setCell ?_ (by first | omega | (simp; done) | (simp; omega)) _ | refine Below.drew ?_ | refine below_drewN ?_ _ | exact Below.refl _ _ | assumption)) (by first | omega | (simp; done) | (simp; omega)), cell_oldB (B := w2.heap.size) va0 (by repeat (first | with_reducible exact Below.refl _ _ | with_reducible assumption | refine Below.alloc ?_ (by first | omega | (simp; done) | (simp; omega)) _ | refine Below.setCell ?_ (by first | omega | (simp; done) | (simp; omega)) _ | refine Below.drew ?_ | refine below_drewN ?_ _ | exact Below.refl _ _ | assumption)) hla2, cell_oldB (B := w2.heap.size) va1 (by repeat (first | with_reducible exact Below.refl _ _ | with_reducible assumption | refine Below.alloc ?_ (by first | omega | (simp; done) | (simp; omega)) _ | refine Below.setCell ?_ (by first | omega | (simp; done) | (simp; omega)) _ | refine Below.drew ?_ | refine below_drewN ?_ _ | exact Below.refl _ _ | assumption)) hla2, cell_oldB (B := w2.heap.size) vb1 (by repeat (first | with_reducible exact Below.refl _ _ | with_reducible assumption | refine Below.alloc ?_ (by first | omega | (simp; done) | (simp; omega)) _ | refine Below.setCell ?_ (by first | omega | (simp; done) | (simp; omega)) _ | refine Below.drew ?_ | refine below_drewN ?_ _ | exact Below.refl _ _ | assumption)) hlb2⟩
              clear hK K
              try simp only [Act.put, List.setIfInBounds_toArray, List.set_cons_zero, List.set_cons_succ]
              refine wpAnyH_done (by kernel_rfl) ?_ _
              have HO9 := hide hown9
              have HB9 := hide hb9
              have HPX := hide HP9
              clear hown9 hb9 hb90 hg9 HP9 cz fz vq v6
              try go_wp2_with fail
              have hlm : (m ++ [(a[i].1, orR a[i].2 b[k].2)]).length = m.length + 1 := by simp
              refine ⟨⟨i + 1, k + 1, m ++ [(a[i].1, orR a[i].2 b[k].2)], A9, c9, by omega, by omega, by go_num, by go_num, by omega, by rw [hlm]; exact hc9, ?_, by rw [hlm]; exact HPX.out.set' 1 _, (HTV.out.grow HB9.out (Nat.le_refl _)).set (.inl rfl) _, by rw [List.append_assoc, List.singleton_append, ← HST.out]; exact HMM.out⟩, by simp [intOf]; omega⟩
              rw [hlm, rC_append]
              exact ownsRow_setCell_below HO9.out (by show w2.heap.size < w3.heap.size; omega) _
            · try simp only [List.getElem_toArray, List.getElem_cons_zero, List.getElem_cons_succ]
              go_simp
              refine hK.out _ _ ?_ (fun hHeld2 => ?_)
              · exact ⟨cell_oldB (B := w2.heap.size) z0 (by repeat (first | with_reducible exact Below.refl _ _ | with_reducible assumption | refine Below.alloc ?_ (by first | omega | (simp; done) | (simp; omega)) _ | refine Below.setCell ?_ (by first | omega | (simp; done) | (simp; omega)) _ | refine Below.drew ?_ | refine below_drewN ?_ _ | exact Below.refl _ _ | assumption)) (by first | omega | (simp; done) | (simp; omega)), cell_oldB (B := w2.heap.size) z1 (by repeat (first | with_reducible exact Below.refl _ _ | with_reducible assumption | refine Below.alloc ?_ (by first | omega | (simp; done) | (simp; omega)) _ | refine Below.setCell ?_ (by first | omega | (simp; done) | (simp; omega)) _ | refine Below.drew ?_ | refine below_drewN ?_ _ | exact Below.refl _ _ | assumption)) (by first | omega | (simp; done) | (simp; omega)), cell_oldB (B := w2.heap.size) va0 (by repeat (first | with_reducible exact Below.refl _ _ | with_reducible assumption | refine Below.alloc ?_ (by first | omega | (simp; done) | (simp; omega)) _ | refine Below.setCell ?_ (by first | omega | (simp; done) | (simp; omega)) _ | refine Below.drew ?_ | refine below_drewN ?_ _ | exact Below.refl _ _ | assumption)) hla2, cell_oldB (B := w2.heap.size) va1 (by repeat (first | with_reducible exact Below.refl _ _ | with_reducible assumption | refine Below.alloc ?_ (by first | omega | (simp; done) | (simp; omega)) _ | refine Below.setCell ?_ (by first | omega | (simp; done) | (simp; omega)) _ | refine Below.drew ?_ | refine below_drewN ?_ _ | exact Below.refl _ _ | assumption)) hla2, cell_oldB (B := w2.heap.size) vb1 (by repeat (first | with_reducible exact Below.refl _ _ | with_reducible assumption | refine Below.alloc ?_ (by first | omega | (simp; done) | (simp; omega)) _ | refine Below.setCell ?_ (by first | omega | (simp; done) | (simp; omega)) _ | refine Below.drew ?_ | refine below_drewN ?_ _ | exact Below.refl _ _ | assumption)) hlb2⟩
              clear hK K
              try simp only [Act.put, List.setIfInBounds_toArray, List.set_cons_zero, List.set_cons_succ, List.getElem_toArray, List.getElem_cons_zero, List.getElem_cons_succ]
              refine wpAnyH_ready (rs := [1]) (by kernel_rfl) (by simp) ?_
              refine AllReadyH.cons rfl (fun K hK => ?_) AllReadyH.nil
              try simp only [List.getElem_toArray, List.getElem_cons_zero, List.getElem_cons_succ]
              go_simp
              refine hK.out _ _ hHeld2 (fun _ => ?_)
              clear hK K
              try simp only [Act.put, List.setIfInBounds_toArray, List.set_cons_zero, List.set_cons_succ, List.getElem_toArray, List.getElem_cons_zero, List.getElem_cons_succ]
              refine wpAnyH_ready (rs := [23]) (by kernel_rfl) (by simp) ?_
              refine AllReadyH.cons rfl (fun K hK => ?_) AllReadyH.nil
              try simp only [List.getElem_toArray, List.getElem_cons_zero, List.getElem_cons_succ]
              rw [show (w6.alloc (Obj.cells #[Value.string a[i].1, Value.int .i64 (bits .or .i64 a[i].2 b[k].2)] 53)).drew = w6.drew.alloc (.cells #[Value.string a[i].1, Value.int .i64 (orR a[i].2 b[k].2)] 53) from rfl]
              rw [if_pos (by rfl)]
              refine push_wp w6.drew (by rfl) (.tmp 105) (.tmp 126) 24 (by rfl) w3.heap.size 53 (.agg #[.string ⟨#[]⟩, .int .i64 0]) 2 24 Tryd.underlying24 info_r rfl (by omega) A3 m.length c3 _ [.string a[i].1, .int .i64 (orR a[i].2 b[k].2)] (by rfl) HOV.out (by rfl) rfl (by simp [Value.oneCell']) (by omega) (by omega) (by show w3.heap.size ≤ w6.heap.size; omega) ?_; intro A9 c9 w9 hc9 hown9 hg9 _; have hb90 := grown_below (wr := w6.drew) HOV.out hg9 (by show w3.heap.size ≤ w6.heap.size; omega); have hb9 : Below w3.heap.size w6 w9 := ⟨hb90.os, hb90.tape, hb90.output, hb90.size, hb90.block⟩; have HP9 := HPV.out.below hb9 (by omega); have hb9' := hb9.mono (show w2.heap.size ≤ w3.heap.size by omega); have cz := HP9.cell; have fz := HP9.frozen
              refine hK.out _ _ ?_ (fun hHeld3 => ?_)
              · exact ⟨cell_oldB (B := w2.heap.size) z0 (by repeat (first | with_reducible exact Below.refl _ _ | with_reducible assumption | refine Below.alloc ?_ (by first | omega | (simp; done) | (simp; omega)) _ | refine Below.setCell ?_ (by first | omega | (simp; done) | (simp; omega)) _ | refine Below.drew ?_ | refine below_drewN ?_ _ | exact Below.refl _ _ | assumption)) (by first | omega | (simp; done) | (simp; omega)), cell_oldB (B := w2.heap.size) z1 (by repeat (first | with_reducible exact Below.refl _ _ | with_reducible assumption | refine Below.alloc ?_ (by first | omega | (simp; done) | (simp; omega)) _ | refine Below.setCell ?_ (by first | omega | (simp; done) | (simp; omega)) _ | refine Below.drew ?_ | refine below_drewN ?_ _ | exact Below.refl _ _ | assumption)) (by first | omega | (simp; done) | (simp; omega)), cell_oldB (B := w2.heap.size) va0 (by repeat (first | with_reducible exact Below.refl _ _ | with_reducible assumption | refine Below.alloc ?_ (by first | omega | (simp; done) | (simp; omega)) _ | refine Below.setCell ?_ (by first | omega | (simp; done) | (simp; omega)) _ | refine Below.drew ?_ | refine below_drewN ?_ _ | exact Below.refl _ _ | assumption)) hla2, cell_oldB (B := w2.heap.size) va1 (by repeat (first | with_reducible exact Below.refl _ _ | with_reducible assumption | refine Below.alloc ?_ (by first | omega | (simp; done) | (simp; omega)) _ | refine Below.setCell ?_ (by first | omega | (simp; done) | (simp; omega)) _ | refine Below.drew ?_ | refine below_drewN ?_ _ | exact Below.refl _ _ | assumption)) hla2, cell_oldB (B := w2.heap.size) vb1 (by repeat (first | with_reducible exact Below.refl _ _ | with_reducible assumption | refine Below.alloc ?_ (by first | omega | (simp; done) | (simp; omega)) _ | refine Below.setCell ?_ (by first | omega | (simp; done) | (simp; omega)) _ | refine Below.drew ?_ | refine below_drewN ?_ _ | exact Below.refl _ _ | assumption)) hlb2⟩
              clear hK K
              try simp only [Act.put, List.setIfInBounds_toArray, List.set_cons_zero, List.set_cons_succ]
              refine wpAnyH_take (i := 24) (v := ?_) rfl (by kernel_rfl) (by kernel_rfl) (by kernel_rfl) (fun _ _ _ h => h) (Or.inl ⟨by rfl, ?_⟩) (by assumption) ?_
              rotate_left
              · intro wz hSw
                try dsimp only at hSw
                go_simp
                try with_reducible rfl
              try simp only [Act.put, List.setIfInBounds_toArray, List.set_cons_zero, List.set_cons_succ, List.getElem_toArray, List.getElem_cons_zero, List.getElem_cons_succ]
              refine wpAnyH_ready (rs := [25]) (by kernel_rfl) (by simp) ?_
              refine AllReadyH.cons rfl (fun K hK => ?_) AllReadyH.nil
              try simp only [List.getElem_toArray, List.getElem_cons_zero, List.getElem_cons_succ]
              go_simp
              refine hK.out _ _ ?_ (fun hHeld4 => ?_)
              · exact ⟨cell_oldB (B := w2.heap.size) z0 (by repeat (first | with_reducible exact Below.refl _ _ | with_reducible assumption | refine Below.alloc ?_ (by first | omega | (simp; done) | (simp; omega)) _ | refine Below.setCell ?_ (by first | omega | (simp; done) | (simp; omega)) _ | refine Below.drew ?_ | refine below_drewN ?_ _ | exact Below.refl _ _ | assumption)) (by first | omega | (simp; done) | (simp; omega)), cell_oldB (B := w2.heap.size) z1 (by repeat (first | with_reducible exact Below.refl _ _ | with_reducible assumption | refine Below.alloc ?_ (by first | omega | (simp; done) | (simp; omega)) _ | refine Below.setCell ?_ (by first | omega | (simp; done) | (simp; omega)) _ | refine Below.drew ?_ | refine below_drewN ?_ _ | exact Below.refl _ _ | assumption)) (by first | omega | (simp; done) | (simp; omega)), cell_oldB (B := w2.heap.size) va0 (by repeat (first | with_reducible exact Below.refl _ _ | with_reducible assumption | refine Below.alloc ?_ (by first | omega | (simp; done) | (simp; omega)) _ | refine Below.setCell ?_ (by first | omega | (simp; done) | (simp; omega)) _ | refine Below.drew ?_ | refine below_drewN ?_ _ | exact Below.refl _ _ | assumption)) hla2, cell_oldB (B := w2.heap.size) va1 (by repeat (first | with_reducible exact Below.refl _ _ | with_reducible assumption | refine Below.alloc ?_ (by first | omega | (simp; done) | (simp; omega)) _ | refine Below.setCell ?_ (by first | omega | (simp; done) | (simp; omega)) _ | refine Below.drew ?_ | refine below_drewN ?_ _ | exact Below.refl _ _ | assumption)) hla2, cell_oldB (B := w2.heap.size) vb1 (by repeat (first | with_reducible exact Below.refl _ _ | with_reducible assumption | refine Below.alloc ?_ (by first | omega | (simp; done) | (simp; omega)) _ | refine Below.setCell ?_ (by first | omega | (simp; done) | (simp; omega)) _ | refine Below.drew ?_ | refine below_drewN ?_ _ | exact Below.refl _ _ | assumption)) hlb2⟩
              clear hK K
              try simp only [Act.put, List.setIfInBounds_toArray, List.set_cons_zero, List.set_cons_succ]
              refine wpAnyH_done (by kernel_rfl) ?_ _
              have HO9 := hide hown9
              have HB9 := hide hb9
              have HPX := hide HP9
              clear hown9 hb9 hb90 hg9 HP9 cz fz vq v6
              try go_wp2_with fail
              have hlm : (m ++ [(a[i].1, orR a[i].2 b[k].2)]).length = m.length + 1 := by simp
              refine ⟨⟨i + 1, k + 1, m ++ [(a[i].1, orR a[i].2 b[k].2)], A9, c9, by omega, by omega, by go_num, by go_num, by omega, by rw [hlm]; exact hc9, ?_, by rw [hlm]; exact HPX.out.set' 1 _, (HTV.out.grow HB9.out (Nat.le_refl _)).set (.inl rfl) _, by rw [List.append_assoc, List.singleton_append, ← HST.out]; exact HMM.out⟩, by simp [intOf]; omega⟩
              rw [hlm, rC_append]
              exact ownsRow_setCell_below HO9.out (by show w2.heap.size < w3.heap.size; omega) _
          · have hba' : Op.bytesLess b[k].1.toList a[i].1.toList = true := hba
            have HST := hide (mg_stepB (a := a) (b := b) (i := i) HSB.out hkb (fun _ => hba))
            clear hab hba
            go_wp2_with fail
            refine wp_region_after wr.heap.size (by kernel_rfl) (by kernel_rfl) ?_
            repeat (go_big_quiet_step (fail))
            refine wpQuiet_nil ?_
            rintro w5 ⟨x_w5, e_w5⟩
            have hb5 := x_w5.below
            rw [← e_w5] at hb5
            clear e_w5 x_w5
            have hs5 := hb5.size
            have u0 : ∀ z : After w5.heap.size w5, ∀ j, z.w.cell? ⟨w.heap.size, j, none⟩ = (#[.string nA, .slice (some ⟨ba, offa, none⟩) a.length cA] : Array Value)[j]? := fun z => ((HR0.out.below hb5 HR0.out.lt).below z.below (Nat.lt_of_lt_of_le HR0.out.lt hs5)).cell
            have u1 : ∀ z : After w5.heap.size w5, ∀ j, z.w.cell? ⟨w.heap.size + 1, j, none⟩ = (#[.string nB, .slice (some ⟨bb, offb, none⟩) b.length cB] : Array Value)[j]? := fun z => ((HR1.out.below hb5 HR1.out.lt).below z.below (Nat.lt_of_lt_of_le HR1.out.lt hs5)).cell
            have ua0 : ∀ z : After w5.heap.size w5, z.w.cell? ⟨ba, offa + i * 2, none⟩ = some (.string a[i].1) := fun z => z.cell (cell_oldB HA0.out hb5 (Nat.lt_of_lt_of_le hbla HBW.out.size)) (by omega)
            have ub0 : ∀ z : After w5.heap.size w5, z.w.cell? ⟨bb, offb + k * 2, none⟩ = some (.string b[k].1) := fun z => z.cell (cell_oldB HB0.out hb5 (Nat.lt_of_lt_of_le hblb HBW.out.size)) (by omega)
            clear q0 q1 c0 c1 qa0 qb0
            go_wp2_with fail
            refine wp_region_after w5.heap.size (by kernel_rfl) (by kernel_rfl) ?_
            repeat (go_big_quiet_step (fail))
            refine wpQuiet_nil ?_
            rintro w6 ⟨x_w6, e_w6⟩
            have hb6 := x_w6.below
            rw [← e_w6] at hb6
            clear e_w6 x_w6
            replace hb6 : Below wr.heap.size wr w6 := then_ hb5 hb6 hs5
            have HPV := hide (HPW.out.below hb6 HPW.out.lt)
            have HOV := hide (own_below HOW.out hb6)
            have HTV := hide (HTW.out.grow hb6 hsr)
            have hsV := hb6.size
            have v6 : w6.cell? ⟨w2.heap.size, 1, none⟩ = some (.slice A3 m.length c3) := HPV.out.cell 1
            have fv6 := HPV.out.frozen
            have hlp := HPV.out.lt
            have v1 := (HR1.out.below hb6 HR1.out.lt).cell
            have vb0 := cell_oldB HB0.out hb6 (Nat.lt_of_lt_of_le hblb HBW.out.size)
            have vb1 := cell_oldB HB1.out hb6 (Nat.lt_of_lt_of_le hblb HBW.out.size)
            have vq : (w6.drew.alloc (.cells #[.string b[k].1, .int .i64 b[k].2] 53)).cell? ⟨w2.heap.size, 1, none⟩ = some (.slice A3 m.length c3) := cell_al (w := w6.drew) v6 hlp _
            clear hb6
            go_wp2_with fail
            go_region_law (refine step_push w6.drew (by rfl) (.tmp 93) (.tmp 99) 24 (by rfl) w3.heap.size 53 (.agg #[.string ⟨#[]⟩, .int .i64 0]) 2 24 Tryd.underlying24 info_r rfl (by omega) A3 m.length c3 _ [.string b[k].1, .int .i64 b[k].2] (by rfl) HOV.out (by rfl) rfl (by simp [Value.oneCell']) (by omega) (by omega) (by show w3.heap.size ≤ w6.heap.size; omega) ?_; intro A9 c9 w9 hc9 hown9 hg9 _; have hb90 := grown_below (wr := w6.drew) HOV.out hg9 (by show w3.heap.size ≤ w6.heap.size; omega); have hb9 : Below w3.heap.size w6 w9 := ⟨hb90.os, hb90.tape, hb90.output, hb90.size, hb90.block⟩; have HP9 := HPV.out.below hb9 (by omega); have cz := HP9.cell; have fz := HP9.frozen)
            all_goals
              have HO9 := hide hown9
              have HB9 := hide hb9
              have HPX := hide HP9
              clear hown9 hb9 hb90 hg9 HP9 cz fz vq v6
              try go_wp2_with fail
              have hlm : (m ++ [b[k]]).length = m.length + 1 := by simp
              refine ⟨⟨i, k + 1, m ++ [b[k]], A9, c9, by omega, by omega, by go_num, by go_num, by omega, by rw [hlm]; exact hc9, ?_, by rw [hlm]; exact HPX.out.set' 1 _, (HTV.out.grow HB9.out (Nat.le_refl _)).set (.inl rfl) _, by rw [List.append_assoc, List.singleton_append, ← HST.out]; exact HMM.out⟩, by simp [intOf]; omega⟩
              rw [hlm, rC_append]
              exact ownsRow_setCell_below HO9.out (by show w2.heap.size < w3.heap.size; omega) _
        · have hab' : Op.bytesLess a[i].1.toList b[k].1.toList = true := hab
          have HST := hide (mg_stepA (a := a) (b := b) (k := k) HSB.out hia (fun _ => hab))
          clear hab
          go_wp2_with fail
          refine wp_region_after wr.heap.size (by kernel_rfl) (by kernel_rfl) ?_
          repeat (go_big_quiet_step (fail))
          refine wpQuiet_nil ?_
          rintro w5 ⟨x_w5, e_w5⟩
          have hb5 := x_w5.below
          rw [← e_w5] at hb5
          clear e_w5 x_w5
          have HPV := hide (HPW.out.below hb5 HPW.out.lt)
          have HOV := hide (own_below HOW.out hb5)
          have HTV := hide (HTW.out.grow hb5 hsr)
          have hsV := hb5.size
          have v6 : w5.cell? ⟨w2.heap.size, 1, none⟩ = some (.slice A3 m.length c3) := HPV.out.cell 1
          have fv6 := HPV.out.frozen
          have hlp := HPV.out.lt
          have v0 := (HR0.out.below hb5 HR0.out.lt).cell
          have va0 := cell_oldB HA0.out hb5 (Nat.lt_of_lt_of_le hbla HBW.out.size)
          have va1 := cell_oldB HA1.out hb5 (Nat.lt_of_lt_of_le hbla HBW.out.size)
          have vq : (w5.drew.alloc (.cells #[.string a[i].1, .int .i64 a[i].2] 53)).cell? ⟨w2.heap.size, 1, none⟩ = some (.slice A3 m.length c3) := cell_al (w := w5.drew) v6 hlp _
          clear hb5
          go_wp2_with fail
          go_region_law (refine step_push w5.drew (by rfl) (.tmp 61) (.tmp 67) 24 (by rfl) w3.heap.size 53 (.agg #[.string ⟨#[]⟩, .int .i64 0]) 2 24 Tryd.underlying24 info_r rfl (by omega) A3 m.length c3 _ [.string a[i].1, .int .i64 a[i].2] (by rfl) HOV.out (by rfl) rfl (by simp [Value.oneCell']) (by omega) (by omega) (by show w3.heap.size ≤ w5.heap.size; omega) ?_; intro A9 c9 w9 hc9 hown9 hg9 _; have hb90 := grown_below (wr := w5.drew) HOV.out hg9 (by show w3.heap.size ≤ w5.heap.size; omega); have hb9 : Below w3.heap.size w5 w9 := ⟨hb90.os, hb90.tape, hb90.output, hb90.size, hb90.block⟩; have HP9 := HPV.out.below hb9 (by omega); have cz := HP9.cell; have fz := HP9.frozen)
          all_goals
            have HO9 := hide hown9
            have HB9 := hide hb9
            have HPX := hide HP9
            clear hown9 hb9 hb90 hg9 HP9 cz fz vq v6
            try go_wp2_with fail
            have hlm : (m ++ [a[i]]).length = m.length + 1 := by simp
            refine ⟨⟨i + 1, k, m ++ [a[i]], A9, c9, by omega, by omega, by go_num, by go_num, by omega, by rw [hlm]; exact hc9, ?_, by rw [hlm]; exact HPX.out.set' 1 _, (HTV.out.grow HB9.out (Nat.le_refl _)).set (.inl rfl) _, by rw [List.append_assoc, List.singleton_append, ← HST.out]; exact HMM.out⟩, by simp [intOf]; omega⟩
            rw [hlm, rC_append]
            exact ownsRow_setCell_below HO9.out (by show w2.heap.size < w3.heap.size; omega) _
      · have hqb : ((k : Int) == (b.length : Int)) = true := by
          have e : k = b.length := by omega
          rw [e]; simp
        have HST := hide (mg_stepA (a := a) (b := b) (k := k) HSB.out hia (fun h => absurd h hkb))
        have HA0 := hide ha0
        have HA1 := hide ha1
        clear ha0 ha1
        go_wp2_with fail
        refine wp_region_after wr.heap.size (by kernel_rfl) (by kernel_rfl) ?_
        repeat (go_big_quiet_step (fail))
        refine wpQuiet_nil ?_
        rintro w5 ⟨x_w5, e_w5⟩
        have hb5 := x_w5.below
        rw [← e_w5] at hb5
        clear e_w5 x_w5
        have HPV := hide (HPW.out.below hb5 HPW.out.lt)
        have HOV := hide (own_below HOW.out hb5)
        have HTV := hide (HTW.out.grow hb5 hsr)
        have hsV := hb5.size
        have v6 : w5.cell? ⟨w2.heap.size, 1, none⟩ = some (.slice A3 m.length c3) := HPV.out.cell 1
        have fv6 := HPV.out.frozen
        have hlp := HPV.out.lt
        have v0 := (HR0.out.below hb5 HR0.out.lt).cell
        have va0 := cell_oldB HA0.out hb5 (Nat.lt_of_lt_of_le hbla HBW.out.size)
        have va1 := cell_oldB HA1.out hb5 (Nat.lt_of_lt_of_le hbla HBW.out.size)
        have vq : (w5.drew.alloc (.cells #[.string a[i].1, .int .i64 a[i].2] 53)).cell? ⟨w2.heap.size, 1, none⟩ = some (.slice A3 m.length c3) := cell_al (w := w5.drew) v6 hlp _
        clear hb5
        go_wp2_with fail
        go_region_law (refine step_push w5.drew (by rfl) (.tmp 61) (.tmp 67) 24 (by rfl) w3.heap.size 53 (.agg #[.string ⟨#[]⟩, .int .i64 0]) 2 24 Tryd.underlying24 info_r rfl (by omega) A3 m.length c3 _ [.string a[i].1, .int .i64 a[i].2] (by rfl) HOV.out (by rfl) rfl (by simp [Value.oneCell']) (by omega) (by omega) (by show w3.heap.size ≤ w5.heap.size; omega) ?_; intro A9 c9 w9 hc9 hown9 hg9 _; have hb90 := grown_below (wr := w5.drew) HOV.out hg9 (by show w3.heap.size ≤ w5.heap.size; omega); have hb9 : Below w3.heap.size w5 w9 := ⟨hb90.os, hb90.tape, hb90.output, hb90.size, hb90.block⟩; have HP9 := HPV.out.below hb9 (by omega); have cz := HP9.cell; have fz := HP9.frozen)
        all_goals
          have HO9 := hide hown9
          have HB9 := hide hb9
          have HPX := hide HP9
          clear hown9 hb9 hb90 hg9 HP9 cz fz vq v6
          try go_wp2_with fail
          have hlm : (m ++ [a[i]]).length = m.length + 1 := by simp
          refine ⟨⟨i + 1, k, m ++ [a[i]], A9, c9, by omega, by omega, by go_num, by go_num, by omega, by rw [hlm]; exact hc9, ?_, by rw [hlm]; exact HPX.out.set' 1 _, (HTV.out.grow HB9.out (Nat.le_refl _)).set (.inl rfl) _, by rw [List.append_assoc, List.singleton_append, ← HST.out]; exact HMM.out⟩, by simp [intOf]; omega⟩
          rw [hlm, rC_append]
          exact ownsRow_setCell_below HO9.out (by show w2.heap.size < w3.heap.size; omega) _
    · have hda : decide ((i : Int) < (a.length : Int)) = false := by simp; omega
      have hqa : ((i : Int) == (a.length : Int)) = true := by
        have e : i = a.length := by omega
        rw [e]; simp
      by_cases hkb : k < b.length
      · have hdb : decide ((k : Int) < (b.length : Int)) = true := by simp; omega
        have hqb : ((k : Int) == (b.length : Int)) = false := beq_eq_false_iff_ne.2 (by omega)
        obtain ⟨bb, offb, rfl, hblb, hlb', hb0, hb1'⟩ := (HRB.out.below HBW.out (Nat.le_refl _)).rule (k := k) hkb
        have HB0 := hide hb0
        have HB1 := hide hb1'
        have HST := hide (mg_stepB (a := a) (b := b) (i := i) HSB.out hkb (fun h => absurd h hia))
        have qb0 : ∀ z : After wr.heap.size wr, z.w.cell? ⟨bb, offb + k * 2, none⟩ = some (.string b[k].1) := fun z => z.cell hb0 (by omega)
        clear hb0 hb1'
        go_wp2_with fail
        refine wp_region_after wr.heap.size (by kernel_rfl) (by kernel_rfl) ?_
        repeat (go_big_quiet_step (fail))
        refine wpQuiet_nil ?_
        rintro w5 ⟨x_w5, e_w5⟩
        have hb5 := x_w5.below
        rw [← e_w5] at hb5
        clear e_w5 x_w5
        have hs5 := hb5.size
        have u0 : ∀ z : After w5.heap.size w5, ∀ j, z.w.cell? ⟨w.heap.size, j, none⟩ = (#[.string nA, .slice A a.length cA] : Array Value)[j]? := fun z => ((HR0.out.below hb5 HR0.out.lt).below z.below (Nat.lt_of_lt_of_le HR0.out.lt hs5)).cell
        have u1 : ∀ z : After w5.heap.size w5, ∀ j, z.w.cell? ⟨w.heap.size + 1, j, none⟩ = (#[.string nB, .slice (some ⟨bb, offb, none⟩) b.length cB] : Array Value)[j]? := fun z => ((HR1.out.below hb5 HR1.out.lt).below z.below (Nat.lt_of_lt_of_le HR1.out.lt hs5)).cell
        have ub0 : ∀ z : After w5.heap.size w5, z.w.cell? ⟨bb, offb + k * 2, none⟩ = some (.string b[k].1) := fun z => z.cell (cell_oldB HB0.out hb5 (Nat.lt_of_lt_of_le hblb HBW.out.size)) (by omega)
        clear q0 q1 c0 c1 qb0
        go_wp2_with fail
        refine wp_region_after w5.heap.size (by kernel_rfl) (by kernel_rfl) ?_
        repeat (go_big_quiet_step (fail))
        refine wpQuiet_nil ?_
        rintro w6 ⟨x_w6, e_w6⟩
        have hb6 := x_w6.below
        rw [← e_w6] at hb6
        clear e_w6 x_w6
        replace hb6 : Below wr.heap.size wr w6 := then_ hb5 hb6 hs5
        have HPV := hide (HPW.out.below hb6 HPW.out.lt)
        have HOV := hide (own_below HOW.out hb6)
        have HTV := hide (HTW.out.grow hb6 hsr)
        have hsV := hb6.size
        have v6 : w6.cell? ⟨w2.heap.size, 1, none⟩ = some (.slice A3 m.length c3) := HPV.out.cell 1
        have fv6 := HPV.out.frozen
        have hlp := HPV.out.lt
        have v1 := (HR1.out.below hb6 HR1.out.lt).cell
        have vb0 := cell_oldB HB0.out hb6 (Nat.lt_of_lt_of_le hblb HBW.out.size)
        have vb1 := cell_oldB HB1.out hb6 (Nat.lt_of_lt_of_le hblb HBW.out.size)
        have vq : (w6.drew.alloc (.cells #[.string b[k].1, .int .i64 b[k].2] 53)).cell? ⟨w2.heap.size, 1, none⟩ = some (.slice A3 m.length c3) := cell_al (w := w6.drew) v6 hlp _
        clear hb6
        go_wp2_with fail
        go_region_law (refine step_push w6.drew (by rfl) (.tmp 93) (.tmp 99) 24 (by rfl) w3.heap.size 53 (.agg #[.string ⟨#[]⟩, .int .i64 0]) 2 24 Tryd.underlying24 info_r rfl (by omega) A3 m.length c3 _ [.string b[k].1, .int .i64 b[k].2] (by rfl) HOV.out (by rfl) rfl (by simp [Value.oneCell']) (by omega) (by omega) (by show w3.heap.size ≤ w6.heap.size; omega) ?_; intro A9 c9 w9 hc9 hown9 hg9 _; have hb90 := grown_below (wr := w6.drew) HOV.out hg9 (by show w3.heap.size ≤ w6.heap.size; omega); have hb9 : Below w3.heap.size w6 w9 := ⟨hb90.os, hb90.tape, hb90.output, hb90.size, hb90.block⟩; have HP9 := HPV.out.below hb9 (by omega); have cz := HP9.cell; have fz := HP9.frozen)
        all_goals
          have HO9 := hide hown9
          have HB9 := hide hb9
          have HPX := hide HP9
          clear hown9 hb9 hb90 hg9 HP9 cz fz vq v6
          try go_wp2_with fail
          have hlm : (m ++ [b[k]]).length = m.length + 1 := by simp
          refine ⟨⟨i, k + 1, m ++ [b[k]], A9, c9, by omega, by omega, by go_num, by go_num, by omega, by rw [hlm]; exact hc9, ?_, by rw [hlm]; exact HPX.out.set' 1 _, (HTV.out.grow HB9.out (Nat.le_refl _)).set (.inl rfl) _, by rw [List.append_assoc, List.singleton_append, ← HST.out]; exact HMM.out⟩, by simp [intOf]; omega⟩
          rw [hlm, rC_append]
          exact ownsRow_setCell_below HO9.out (by show w2.heap.size < w3.heap.size; omega) _
      · have hdb : decide ((k : Int) < (b.length : Int)) = false := by simp; omega
        have hie : i = a.length := by omega
        have hke : k = b.length := by omega
        have hmm := HMM.out
        rw [List.drop_eq_nil_of_le (by omega), List.drop_eq_nil_of_le (by omega), mg_nil, List.append_nil] at hmm
        subst hmm
        have p6 := HPW.out.cell
        have CI := hide (CM.out A3 c3 wr (own_rd HOW.out))
        clear q0 q1 hie hke
        go_wp2_with fail
        refine CI.out.mono ?_
        rintro e w6 ⟨rfl, hb6⟩
        have HP6 := hide (HPW.out.below hb6 HPW.out.lt)
        have HO6 := hide (own_below HOW.out hb6)
        have HB6 := hide (then_ HBW.out hb6 HBW.out.size)
        have HR6 := hide (HRW.out.below hb6 HRW.out.lt)
        have hs6 := hb6.size
        clear hb6 p6 CI c0 c1
        have hrw := HR6.out
        have hlw := hrw.lt
        have qR := hrw.cell
        have fR := hrw.frozen
        cases hpm : polB nA (mg a b)
        · have HNO : Hid (mgOk nA nB a b = false) := by show _ = _; rw [HMG.out, hpm]
          have HRS := hide ((hrw.set' 0 (.string ⟨#[]⟩)).set' 1 (.slice none 0 0))
          clear hrw hpm
          go_wp2_with fail
          have qS : ∀ i, ((w6.setCell ⟨w.heap.size + 1 + 1, 0, none⟩ (.string ⟨#[]⟩)).setCell ⟨w.heap.size + 1 + 1, 1, none⟩ (.slice none 0 0)).cell? ⟨w.heap.size + 1 + 1, i, none⟩ = (#[.string ⟨#[]⟩, .slice none 0 0] : Array Value)[i]? := HRS.out.cell
          refine bodyPost_ret (v := .tuple #[.agg #[.string ⟨#[]⟩, .slice none 0 0], .bool false]) (by simp [results, Tryd.results16, go_sem, qS]) rfl ?_
          exact RetMg.no HNO.out ((HB6.out.setCell (by show w.heap.size ≤ w.heap.size + 1 + 1; omega) _).setCell (by show w.heap.size ≤ w.heap.size + 1 + 1; omega) _)
        · have HOK : Hid (mgOk nA nB a b = true) := by show _ = _; rw [HMG.out, hpm]
          have HRS := hide ((hrw.set' 0 (.string nA)).set' 1 (.slice A3 (mg a b).length c3))
          have p6 := HP6.out.cell
          clear hrw hpm
          go_wp2_with fail
          have qS : ∀ i, ((w6.setCell ⟨w.heap.size + 1 + 1, 0, none⟩ (.string nA)).setCell ⟨w.heap.size + 1 + 1, 1, none⟩ (.slice A3 (mg a b).length c3)).cell? ⟨w.heap.size + 1 + 1, i, none⟩ = (#[.string nA, .slice A3 (mg a b).length c3] : Array Value)[i]? := HRS.out.cell
          refine bodyPost_ret (v := .tuple #[.agg #[.string nA, .slice A3 (mg a b).length c3], .bool true]) (by simp [results, Tryd.results16, go_sem, qS]) rfl ?_
          exact RetMg.ok HOK.out rfl hmc (own_mono (ownsRow_setCell_below (ownsRow_setCell_below HO6.out (by show w.heap.size + 1 + 1 < w3.heap.size; omega) _) (by show w.heap.size + 1 + 1 < w3.heap.size; omega) _) (by omega)) ((HB6.out.setCell (by show w.heap.size ≤ w.heap.size + 1 + 1; omega) _).setCell (by show w.heap.size ≤ w.heap.size + 1 + 1; omega) _)
end Go.Proofs.YtmjmjloiblbhcaaDoor
