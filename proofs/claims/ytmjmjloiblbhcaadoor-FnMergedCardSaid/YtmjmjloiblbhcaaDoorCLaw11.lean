/- The law of merged policies: it returns true; its contract says for which arguments. -/
import Derived.Test.YtmjmjloiblbhcaaDoorC22
import Derived.Test.YtmjmjloiblbhcaaDoorC23
import Derived.Test.YtmjmjloiblbhcaaDoorC25
import Derived.Test.YtmjmjloiblbhcaaDoorC8
namespace Go.Proofs.YtmjmjloiblbhcaaDoor
open Go.RowKit
set_option maxRecDepth 100000
set_option maxHeartbeats 4000000
/-- two boxes that hold policies, with their rows -/
structure PK (t x y : Nat) (cx cy : Array Value) (A B : Option Addr) (n m : Nat) (xs ys : List Value) (W : World) : Prop where
  lx : Blk W x t cx
  ly : Blk W y t cy
  ra : Rd W W.heap.size 2 A n xs
  rb : Rd W W.heap.size 2 B m ys
theorem PK.up {t x y : Nat} {cx cy : Array Value} {A B : Option Addr} {n m : Nat} {xs ys : List Value} {W W' : World} (h : PK t x y cx cy A B n m xs ys W) (hb : Below W.heap.size W W') : PK t x y cx cy A B n m xs ys W' :=
  ⟨h.lx.below hb h.lx.lt, h.ly.below hb h.ly.lt, h.ra.up hb, h.rb.up hb⟩
/-- a policy in new memory, and that all went well -/
def RetPT (N : ByteArray) (S : List Rl) (w : World) (en : Ending) (w' : World) : Prop :=
  ∃ A c, en = .returned (.tuple #[.agg #[.string N, .slice A S.length c], .bool true]) ∧ Rd w' w'.heap.size 2 A S.length (rC S) ∧ Below w.heap.size w w'
theorem RetMg.yes {nA nB : ByteArray} {a b : List Rl} {w w' : World} {en : Ending} (h : RetMg nA nB a b w en w') (hok : mgOk nA nB a b = true) : RetPT nA (mg a b) w en w' := by
  have e1 : mgN nA nB a b = nA := by unfold mgN; rw [if_pos hok]
  have e2 : mgR nA nB a b = mg a b := by unfold mgR; rw [if_pos hok]
  obtain ⟨A, c, h1, h2, h3, h4⟩ := h
  rw [e1, e2, hok] at h1
  rw [e2] at h3
  exact ⟨A, c, h1, own_rd h3, h4⟩
/-- a policy and that it went not well -/
def RetPN (w : World) (en : Ending) (w' : World) : Prop := ∃ N A k c, en = .returned (.tuple #[.agg #[.string N, .slice A k c], .bool false]) ∧ Below w.heap.size w w'
theorem RetMg.not {nA nB : ByteArray} {a b : List Rl} {w w' : World} {en : Ending} (h : RetMg nA nB a b w en w') (hok : mgOk nA nB a b = false) : RetPN w en w' := by
  obtain ⟨A, c, h1, h2, h3, h4⟩ := h
  rw [hok] at h1
  exact ⟨_, A, _, c, h1, h4⟩
theorem fnMerged_walk (A : Option Addr) (n c : Nat) (l : List UInt8) (w : World) (hg : GM w) (hr : Rd w w.heap.size 1 A n (bC l)) :
    Calls Tryd.prog 5 #[.slice A n c] w (RetV (.bool true) w) := by
  by_cases hbig : 1048576 < n
  · have hbd := hr.bd
    have hbg : decide (1048576 < n) = true := decide_eq_true hbig
    have C0 := hide (big_c A n c w hbd)
    go_enter Tryd.func5, Tryd.ntmps5
    go_wp2_with fail
    refine C0.out.mono ?_
    rintro e w0 ⟨rfl, rfl⟩
    rw [hbg]
    go_wp2_with fail
    go_ret
    exact ⟨rfl, Below.refl _ _⟩
  have hn : n ≤ 1048576 := by omega
  have hbg : decide (1048576 < n) = false := decide_eq_false hbig
  have C0 := hide (big_c A n c w (by omega))
  have HRC := hide hr
  clear hbig hr
  go_enter Tryd.func5, Tryd.ntmps5
  go_wp2_with fail
  refine C0.out.mono ?_
  rintro e w0 ⟨rfl, rfl⟩
  rw [hbg]
  clear C0 hbg
  go_wp2_with fail
  refine (DrawMergePolicy_c A n c l _ HRC.out hn).mono ?_
  rintro e w1 ⟨nA, A1, cA, a, nB, B1, cB, b, hnA, ha, hnB, hb, rfl, ra, rb, hb1⟩
  have HRA := hide ra
  have HRB := hide rb
  have HB1 := hide hb1
  clear ra rb hb1
  go_wp2_with fail
  have hba : Below w1.heap.size w1 ((w1.alloc (.cells #[.string nA, .slice A1 a.length cA] 26)).alloc (.cells #[.string nB, .slice B1 b.length cB] 26)) := (by repeat (first | with_reducible exact Below.refl _ _ | with_reducible assumption | refine Below.alloc ?_ (by first | omega | (simp; done) | (simp; omega)) _ | refine Below.setCell ?_ (by first | omega | (simp; done) | (simp; omega)) _ | refine Below.drew ?_ | refine below_drewN ?_ _ | exact Below.refl _ _ | assumption))
  have HP : Hid (PK 26 w1.heap.size (w1.heap.size + 1) #[.string nA, .slice A1 a.length cA] #[.string nB, .slice B1 b.length cB] A1 B1 a.length b.length (rC a) (rC b) ((w1.alloc (.cells #[.string nA, .slice A1 a.length cA] 26)).alloc (.cells #[.string nB, .slice B1 b.length cB] 26))) := ⟨(Blk.new w1 _ _).alloc _, Blk.new1 w1 _ _ _, HRA.out.up hba, HRB.out.up hba⟩
  have HBW := hide (then_ HB1.out hba HB1.out.size)
  have hz1 := HB1.out.size
  generalize hW : ((w1.alloc (.cells #[.string nA, .slice A1 a.length cA] 26)).alloc (.cells #[.string nB, .slice B1 b.length cB] 26)) = W at HP HBW ⊢
  have hzW : w1.heap.size + 2 = W.heap.size := by rw [← hW]; simp
  clear hW hba HRA HRB HB1
  have hza : ∀ x ∈ a, x.1.size < 4294967281 := fun x hx => by have := ha x hx; omega
  have hzb : ∀ x ∈ b, x.1.size < 4294967281 := fun x hx => by have := hb x hx; omega
  have HZ := hide (mg_all (P := fun g => g.size < 4294967281) hza hzb)
  have CS := hide (MergePolicy_s nA nB A1 B1 cA cB a b W HP.out.ra HP.out.rb hza hzb (by omega) (by omega))
  have CIM := hide fun (V : World) (hg : GM V) (h1 : Rd V V.heap.size 2 A1 a.length (rC a)) (h2 : Rd V V.heap.size 2 B1 b.length (rC b)) => MergePolicy_i nA nB A1 B1 cA cB a b V hg h1 h2 hza hzb
  cases hok : mgOk nA nB a b
  · have CS := hide (CS.out.mono fun en w' h => RetMg.not h hok)
    clear hok CIM
    refine CS.out.mono ?_
    rintro e w2 ⟨N, A2, k2, c2, rfl, hb2⟩
    have HB2 := hide (then_ HBW.out hb2 HBW.out.size)
    clear hb2 CS
    go_wp2_with fail
    go_ret
    exact ⟨rfl, HB2.out.alloc HB2.out.size _⟩
  have CS := hide (CS.out.mono fun en w' h => RetMg.yes h hok)
  have CIM := hide fun (V : World) (hg : GM V) (h1 : Rd V V.heap.size 2 A1 a.length (rC a)) (h2 : Rd V V.heap.size 2 B1 b.length (rC b)) => (CIM.out V hg h1 h2).mono fun en w' h => RetMg.yes h hok
  have hok3 : polB nA a = true ∧ polB nB b = true ∧ polB nA (mg a b) = true := by
    simp only [mgOk, Bool.and_eq_true] at hok
    exact ⟨hok.1.1, hok.1.2, hok.2⟩
  have HMG := hide fun (p : ByteArray) (hp : pathB p = true) => merged hok3.1 hok3.2.1 hok3.2.2 hp
  have HZS : Hid (∀ x ∈ mg a b, x.1.size < 4294967281) := HZ.out
  generalize mg a b = S at CS CIM HMG HZS
  clear hok hok3 HZ
  refine CS.out.mono ?_
  rintro e w2 ⟨A2, c2, rfl, ra2, hb2⟩
  have hba : Below w2.heap.size w2 (w2.alloc (.cells #[.string nA, .slice A2 S.length c2] 26)) := (by repeat (first | with_reducible exact Below.refl _ _ | with_reducible assumption | refine Below.alloc ?_ (by first | omega | (simp; done) | (simp; omega)) _ | refine Below.setCell ?_ (by first | omega | (simp; done) | (simp; omega)) _ | refine Below.drew ?_ | refine below_drewN ?_ _ | exact Below.refl _ _ | assumption))
  have HP := hide ((HP.out.up hb2).up hba)
  have HBW := hide (then_ (then_ HBW.out hb2 HBW.out.size) hba (Nat.le_trans HBW.out.size hb2.size))
  have HR2 := hide (ra2.up hba)
  have HLw := hide (Blk.new w2 26 #[.string nA, .slice A2 S.length c2])
  have q0 := HP.out.lx.cell
  have q1 := HP.out.ly.cell
  clear ra2 hb2 hba CS
  go_wp2_with fail
  refine (CIM.out _ (hg.up HBW.out) HP.out.ra HP.out.rb).mono ?_
  rintro e w3 ⟨A3, c3, rfl, ra3, hb3⟩
  have hba : Below w3.heap.size w3 (w3.alloc (.cells #[.string nA, .slice A3 S.length c3] 26)) := (by repeat (first | with_reducible exact Below.refl _ _ | with_reducible assumption | refine Below.alloc ?_ (by first | omega | (simp; done) | (simp; omega)) _ | refine Below.setCell ?_ (by first | omega | (simp; done) | (simp; omega)) _ | refine Below.drew ?_ | refine below_drewN ?_ _ | exact Below.refl _ _ | assumption))
  have hz3 := hb3.size
  simp only [World.size_alloc] at hz3
  have HP := hide ((HP.out.up hb3).up hba)
  have HK : Hid (PK 26 w2.heap.size w3.heap.size #[.string nA, .slice A2 S.length c2] #[.string nA, .slice A3 S.length c3] A2 A3 S.length S.length (rC S) (rC S) (w3.alloc (.cells #[.string nA, .slice A3 S.length c3] 26))) := ⟨(HLw.out.below hb3 HLw.out.lt).alloc _, Blk.new w3 _ _, (HR2.out.up hb3).up hba, ra3.up hba⟩
  have HBW := hide (then_ (then_ HBW.out hb3 HBW.out.size) hba (Nat.le_trans HBW.out.size hb3.size))
  have CE := hide (samePolicy_c nA A3 A2 c3 c2 S _ HK.out.rb HK.out.ra)
  have q2 := HK.out.lx.cell
  have q3 := HK.out.ly.cell
  clear ra3 hb3 hba CIM HR2 HLw q0 q1
  go_wp2_with fail
  refine CE.out.mono ?_
  rintro e w4 ⟨rfl, hb4⟩
  have HP := hide (HP.out.up hb4)
  have HK := hide (HK.out.up hb4)
  have HBW := hide (then_ HBW.out hb4 HBW.out.size)
  have CA : Hid (Calls Tryd.prog 24 #[.slice A n c, .int .i64 4] w4 (RetC w4)) := alt_c A n c l 4 w4 (HRC.out.up HBW.out) hn
  clear hb4 CE q2 q3
  go_wp2_with fail
  refine CA.out.mono ?_
  rintro e w5 ⟨A5, n5, c5, l5, rfl, hn5, ra5, hb5⟩
  have HP := hide (HP.out.up hb5)
  have HK := hide (HK.out.up hb5)
  have HBW := hide (then_ HBW.out hb5 HBW.out.size)
  have CD := hide (DrawRuleFor_c A5 n5 c5 l5 w5 ra5 hn5)
  clear hb5 ra5 CA
  go_wp2_with fail
  refine CD.out.mono ?_
  rintro e w6 ⟨nm, A6, k6, c6, p, hp, rfl, hb6⟩
  have hba : Below w6.heap.size w6 (w6.alloc (.cells #[.string nm, .slice A6 k6 c6] 26)) := (by repeat (first | with_reducible exact Below.refl _ _ | with_reducible assumption | refine Below.alloc ?_ (by first | omega | (simp; done) | (simp; omega)) _ | refine Below.setCell ?_ (by first | omega | (simp; done) | (simp; omega)) _ | refine Below.drew ?_ | refine below_drewN ?_ _ | exact Below.refl _ _ | assumption))
  have HP := hide ((HP.out.up hb6).up hba)
  have HK := hide ((HK.out.up hb6).up hba)
  have HBW := hide (then_ (then_ HBW.out hb6 HBW.out.size) hba (Nat.le_trans HBW.out.size hb6.size))
  have CPO := hide (PathOk_s p (w6.alloc (.cells #[.string nm, .slice A6 k6 c6] 26)) (by omega))
  clear hb6 hba CD
  go_wp2_with fail
  refine CPO.out.mono ?_
  rintro e w7 ⟨rfl, hb7⟩
  have HP := hide (HP.out.up hb7)
  have HK := hide (HK.out.up hb7)
  have HBW := hide (then_ HBW.out hb7 HBW.out.size)
  clear hb7 CPO
  cases hpb : pathB p
  · clear hpb HMG
    go_wp2_with fail
    go_ret
    exact ⟨rfl, HBW.out⟩
  obtain ⟨m1, m2, m3⟩ := HMG.out p hpb
  have CRA := hide (RuleFor_s nA A1 cA a p w7 HP.out.ra hza (by omega) (by omega))
  have CRB := hide fun (V : World) (h : Rd V V.heap.size 2 B1 b.length (rC b)) => RuleFor_s nB B1 cB b p V h hzb (by omega) (by omega)
  have CRM := hide fun (V : World) (hg : GM V) (h : Rd V V.heap.size 2 A3 S.length (rC S)) => RuleFor_i nA A3 c3 S p V hg h HZS.out (by omega)
  clear HMG hpb hza hzb HZS ha hb
  generalize rfA nA a p = X at m1 m2 m3 CRA
  generalize rfA nB b p = Y at m1 m2 m3 CRB
  generalize rfA nA S p = Z at m1 m2 m3 CRM
  obtain ⟨⟨x1, x2⟩, xb⟩ := X
  obtain ⟨⟨y1, y2⟩, yb⟩ := Y
  obtain ⟨⟨z1, z2⟩, zb⟩ := Z
  simp only at m1 m2 m3
  subst m1
  have q0 := HP.out.lx.cell
  have HM2 := hide m2
  have HM3 := hide m3
  clear m2 m3
  go_wp2_with fail
  refine CRA.out.mono ?_
  rintro e w8 ⟨rfl, hb8⟩
  have hba : Below w8.heap.size w8 (w8.alloc (.cells #[.string x1, .int .i64 x2] 53)) := (by repeat (first | with_reducible exact Below.refl _ _ | with_reducible assumption | refine Below.alloc ?_ (by first | omega | (simp; done) | (simp; omega)) _ | refine Below.setCell ?_ (by first | omega | (simp; done) | (simp; omega)) _ | refine Below.drew ?_ | refine below_drewN ?_ _ | exact Below.refl _ _ | assumption))
  have HP := hide ((HP.out.up hb8).up hba)
  have HK := hide ((HK.out.up hb8).up hba)
  have HLx := hide (Blk.new w8 53 #[.string x1, .int .i64 x2])
  have HBW := hide (then_ (then_ HBW.out hb8 HBW.out.size) hba (Nat.le_trans HBW.out.size hb8.size))
  have CRB := hide (CRB.out _ HP.out.rb)
  have q1 := HP.out.ly.cell
  clear hb8 hba CRA q0
  go_wp2_with fail
  refine CRB.out.mono ?_
  rintro e w9 ⟨rfl, hb9⟩
  have hba : Below w9.heap.size w9 (w9.alloc (.cells #[.string y1, .int .i64 y2] 53)) := (by repeat (first | with_reducible exact Below.refl _ _ | with_reducible assumption | refine Below.alloc ?_ (by first | omega | (simp; done) | (simp; omega)) _ | refine Below.setCell ?_ (by first | omega | (simp; done) | (simp; omega)) _ | refine Below.drew ?_ | refine below_drewN ?_ _ | exact Below.refl _ _ | assumption))
  have HK := hide ((HK.out.up hb9).up hba)
  have HLx := hide ((HLx.out.below hb9 HLx.out.lt).alloc (.cells #[.string y1, .int .i64 y2] 53))
  have HLy := hide (Blk.new w9 53 #[.string y1, .int .i64 y2])
  have HBW := hide (then_ (then_ HBW.out hb9 HBW.out.size) hba (Nat.le_trans HBW.out.size hb9.size))
  have CRM := hide (CRM.out _ (hg.up HBW.out) HK.out.rb)
  have q2 := HK.out.ly.cell
  clear hb9 hba CRB q1
  go_wp2_with fail
  refine CRM.out.mono ?_
  rintro e w10 ⟨rfl, hb10⟩
  have HLx := hide ((HLx.out.below hb10 HLx.out.lt).alloc (.cells #[.string z1, .int .i64 z2] 53))
  have HLy := hide ((HLy.out.below hb10 HLy.out.lt).alloc (.cells #[.string z1, .int .i64 z2] 53))
  have HLz := hide (Blk.new w10 53 #[.string z1, .int .i64 z2])
  have HBZ := hide ((then_ HBW.out hb10 HBW.out.size).alloc (Nat.le_trans HBW.out.size hb10.size) (.cells #[.string z1, .int .i64 z2] 53))
  have q3 := HLx.out.cell
  have q4 := HLy.out.cell
  have q5 := HLz.out.cell
  clear hb10 CRM q2 HP HK
  cases xb <;> cases yb
  · go_wp2_with fail
    go_ret
    exact ⟨rfl, HBZ.out⟩
  · have e := HM3.out rfl rfl
    injection e with e1 e2
    subst e1; subst e2
    have ez : (z1.toList == z1.toList) = true := by simp
    have ey : (z2 == z2) = true := by simp
    go_wp2_with fail
    go_ret
    exact ⟨rfl, HBZ.out⟩
  · have e := HM2.out rfl rfl
    injection e with e1 e2
    subst e1; subst e2
    have ez : (z1.toList == z1.toList) = true := by simp
    have ey : (z2 == z2) = true := by simp
    go_wp2_with fail
    go_ret
    exact ⟨rfl, HBZ.out⟩
  · go_wp2_with fail
    go_ret
    exact ⟨rfl, HBZ.out⟩
end Go.Proofs.YtmjmjloiblbhcaaDoor
