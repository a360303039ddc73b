/- The law of texts of policies: it returns true; its contract says for which arguments. -/
import Derived.Test.YtmjmjloiblbhcaaDoorC14
import Derived.Test.YtmjmjloiblbhcaaDoorC16
import Derived.Test.YtmjmjloiblbhcaaDoorK2
namespace Go.Proofs.YtmjmjloiblbhcaaDoor
open Go.RowKit
set_option maxRecDepth 100000
set_option maxHeartbeats 1000000
theorem fnPolicyTexts_walk (A : Option Addr) (n c : Nat) (l : List UInt8) (w : World) (hg : GM w) (hr : Rd w w.heap.size 1 A n (bC l)) :
    Calls Tryd.prog 3 #[.slice A n c] w (RetV (.bool true) w) := by
  by_cases hbig : 1048576 < n
  · have hbd := hr.bd
    have hbg : decide (1048576 < n) = true := decide_eq_true hbig
    have C0 := hide (big_c A n c w hbd)
    go_enter Tryd.func3, Tryd.ntmps3
    go_wp2_with fail
    refine C0.out.mono ?_
    rintro e w0 ⟨rfl, rfl⟩
    rw [hbg]
    go_wp2_with fail
    go_ret
    exact ⟨rfl, Below.refl _ _⟩
  have hn : n ≤ 1048576 := by omega
  have hbg : decide (1048576 < n) = false := decide_eq_false hbig
  have C0 := hide (big_c A n c w (by omega))
  have HRC := hide hr
  obtain ⟨x, hx⟩ := Int.eq_ofNat_of_zero_le (atV_bd l 0).1
  have hx2 : x < 256 := by have := (atV_bd l 0).2; omega
  have CAT := hide fun (W : World) (hb : Below w.heap.size w W) => at_c A n c l 0 W W.heap.size (HRC.out.up hb) hn (by omega) (by omega)
  rw [hx] at CAT
  have CCT := hide fun (W : World) => CapsText_i ((x % 64 : Nat) : Int) W
  rw [capsG_nat (show x % 64 < 64 by omega)] at CCT
  have CPC := hide fun (W : World) => ParseCaps_i (capsB (x % 64)) (by have := (capsB_size (x % 64)).2; omega) W
  rw [parseB_caps (show x % 64 < 64 by omega)] at CPC
  generalize capsB (x % 64) = T at CCT CPC
  have hmod : (x : Int) % 64 = ((x % 64 : Nat) : Int) := by omega
  rw [← hmod] at CCT CPC
  clear hmod
  clear hbig hx hr
  go_enter Tryd.func3, Tryd.ntmps3
  go_wp2_with fail
  refine C0.out.mono ?_
  rintro e w0 ⟨rfl, rfl⟩
  rw [hbg]
  clear C0 hbg
  go_wp2_with fail
  refine (DrawPolicyText_c A n c l _ HRC.out hn).mono ?_
  rintro e w1 ⟨nm, A1, c1, rs, hnm, hk1, hrs, rfl, ho1, hb1⟩
  have La := Blk.new w1 26 #[.string nm, .slice A1 rs.length c1]
  have HB1 : Hid (Below w.heap.size w (w1.alloc (.cells #[.string nm, .slice A1 rs.length c1] 26))) := hb1.alloc hb1.size _
  have HR1 := hide ((own_rd ho1).below (B := w1.heap.size) (w' := w1.alloc (.cells #[.string nm, .slice A1 rs.length c1] 26)) (by repeat (first | with_reducible exact Below.refl _ _ | with_reducible assumption | refine Below.alloc ?_ (by first | omega | (simp; done) | (simp; omega)) _ | refine Below.setCell ?_ (by first | omega | (simp; done) | (simp; omega)) _ | refine Below.drew ?_ | refine below_drewN ?_ _ | exact Below.refl _ _ | assumption)) (Nat.le_refl _))
  have hz : ∀ x ∈ rs, x.1.size < 4294967281 := fun x hx => by have := hrs x hx; omega
  have CP := hide (PolicyOk_s nm A1 c1 rs (w1.alloc (.cells #[.string nm, .slice A1 rs.length c1] 26)) (HR1.out.mono (by simp)) hz (by omega))
  have CT := hide fun (W : World) (hg : GM W) (h : Rd W W.heap.size 2 A1 rs.length (rC rs)) => PolicyText_i nm A1 c1 rs W hg h hz
  have ca := La.cell
  have HS := hide (show (textL rs).length ≤ 100000 by
    have : ∀ (qs : List Rl), (∀ r ∈ qs, r.1.size ≤ 200) → (textL qs).length ≤ 208 * qs.length := by
      intro qs
      induction qs with
      | nil => intro _; simp [textL]
      | cons r t ih =>
        intro h
        have h1 := ih fun x hx => h x (List.mem_cons_of_mem _ hx)
        have h2 := line_length r
        have h3 := h r (by simp)
        rw [show textL (r :: t) = lineL r ++ textL t from by simp [textL]]
        simp only [List.length_append, List.length_cons]
        omega
    have := this rs hrs
    omega)
  clear ho1 hb1 hrs hz
  go_wp2_with fail
  refine CP.out.mono ?_
  rintro e w2 ⟨rfl, hb2⟩
  have HB2 := hide (then_ HB1.out hb2 HB1.out.size)
  obtain ⟨La, ca, _, hla⟩ := La.step hb2
  have HR2 := hide (HR1.out.below hb2 (by simp))
  have hz2 := hb2.size
  simp only [World.size_alloc] at hz2
  have hCT := CT.out w2 (hg.up HB2.out) (HR2.out.mono (by omega))
  cases hpb : polB nm rs
  · have HBX := HB2
    clear hpb hCT hb2 ca
    go_wp2_with fail
    refine (CAT.out _ HBX.out).mono ?_
    rintro e w8 ⟨rfl, rfl⟩
    go_wp2_with (first | (go_at_call 14; refine (CCT.out _).mono ?_; rintro e w9 ⟨rfl, rfl⟩) | (go_at_call 13; refine (CPC.out _).mono ?_; rintro e w10 ⟨rfl, rfl⟩))
    go_ret
    exact ⟨rfl, HBX.out⟩
  · obtain ⟨p1, p2, p3⟩ := parse_text hpb
    rw [polT_ok hpb, hpb] at hCT
    have hCPP := fun (W : World) (hg : GM W) => ParsePolicy_i nm (textB rs) W hg (by rw [textB_size]; have := HS.out; omega)
    have CPP : Hid (∀ W : World, GM W → Calls Tryd.prog 10 #[.string nm, .string (textB rs)] W (fun en w' => ∃ A c, en = .returned (.tuple #[.agg #[.string nm, .slice A rs.length c], .bool true]) ∧ w'.ownsRow W.heap.size 53 2 (.slice A rs.length c) rs.length (rC rs) ∧ Below W.heap.size W w')) := fun W hg => (hCPP W hg).mono fun en w' h => by
      unfold RetPP at h
      rw [p1, p2, p3] at h
      obtain ⟨A, c, h1, _, h2, h3⟩ := h
      exact ⟨A, c, h1, h2, h3⟩
    have HCT := hide hCT
    have CS := hide fun (A A2 : Option Addr) (c c2 : Nat) (W : World) (h : Rd W W.heap.size 2 A rs.length (rC rs)) (h2 : Rd W W.heap.size 2 A2 rs.length (rC rs)) => samePolicy_c nm A A2 c c2 rs W h h2
    generalize textB rs = T2 at HCT CPP
    clear p1 p2 p3 hpb hCT hCPP hb2
    go_wp2_with fail
    refine HCT.out.mono ?_
    rintro e w3 ⟨rfl, hb3⟩
    have HB3 := hide (then_ HB2.out hb3 HB2.out.size)
    obtain ⟨La, ca, _, _⟩ := La.step hb3
    have HR3 := hide (HR2.out.below hb3 (by omega))
    have hz3 := hb3.size
    clear hb3 HCT
    go_wp2_with fail
    refine (CPP.out w3 (hg.up HB3.out)).mono ?_
    rintro e w4 ⟨A4, c4, rfl, ho4, hb4⟩
    have hz4 := hb4.size
    have HB4 : Hid (Below w.heap.size w (w4.alloc (.cells #[.string nm, .slice A4 rs.length c4] 26))) := (then_ HB3.out hb4 HB3.out.size).alloc (by have := HB3.out.size; omega) _
    obtain ⟨La, _, _, _⟩ := La.step hb4
    replace La := La.alloc (.cells #[.string nm, .slice A4 rs.length c4] 26)
    have Lx := Blk.new w4 26 #[.string nm, .slice A4 rs.length c4]
    have HR4 := hide ((HR3.out.below hb4 (by omega)).below (B := w4.heap.size) (w' := w4.alloc (.cells #[.string nm, .slice A4 rs.length c4] 26)) (by repeat (first | with_reducible exact Below.refl _ _ | with_reducible assumption | refine Below.alloc ?_ (by first | omega | (simp; done) | (simp; omega)) _ | refine Below.setCell ?_ (by first | omega | (simp; done) | (simp; omega)) _ | refine Below.drew ?_ | refine below_drewN ?_ _ | exact Below.refl _ _ | assumption)) (by omega))
    have HX4 := hide ((own_rd ho4).below (B := w4.heap.size) (w' := w4.alloc (.cells #[.string nm, .slice A4 rs.length c4] 26)) (by repeat (first | with_reducible exact Below.refl _ _ | with_reducible assumption | refine Below.alloc ?_ (by first | omega | (simp; done) | (simp; omega)) _ | refine Below.setCell ?_ (by first | omega | (simp; done) | (simp; omega)) _ | refine Below.drew ?_ | refine below_drewN ?_ _ | exact Below.refl _ _ | assumption)) (Nat.le_refl _))
    have HCS := hide (CS.out A4 A1 c4 c1 (w4.alloc (.cells #[.string nm, .slice A4 rs.length c4] 26)) (HX4.out.mono (by simp)) (HR4.out.mono (by simp; omega)))
    have ca := La.cell
    have cx := Lx.cell
    clear ho4 hb4
    go_wp2_with fail
    refine HCS.out.mono ?_
    rintro e w5 ⟨rfl, hb5⟩
    have HBX := hide (then_ HB4.out hb5 HB4.out.size)
    clear hb5 HCS ca cx La Lx
    go_wp2_with fail
    refine (CAT.out _ HBX.out).mono ?_
    rintro e w8 ⟨rfl, rfl⟩
    go_wp2_with (first | (go_at_call 14; refine (CCT.out _).mono ?_; rintro e w9 ⟨rfl, rfl⟩) | (go_at_call 13; refine (CPC.out _).mono ?_; rintro e w10 ⟨rfl, rfl⟩))
    go_ret
    exact ⟨rfl, HBX.out⟩
end Go.Proofs.YtmjmjloiblbhcaaDoor
