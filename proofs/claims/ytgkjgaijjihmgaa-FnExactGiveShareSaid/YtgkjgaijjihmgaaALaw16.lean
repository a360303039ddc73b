/- The law of GiveShare: it returns true; the contract says for which arguments. -/
import Derived.Test.YtgkjgaijjihmgaaA40
import Derived.Deep.DeepCutAuto
import Derived.Deep.RegionHeld3
namespace Go.Proofs.Ytgkjgaijjihmgaa
open Go.RowKit Gf
set_option maxRecDepth 100000
set_option maxHeartbeats 4000000
theorem alloc_lt {w : World} {o : Obj} {n : Nat} (h : (w.alloc o).heap.size ≤ n) : w.heap.size < n := by
  rw [World.size_alloc] at h
  exact h
/-- a box that holds a seal, with a code and a secret beside it -/
def GAt (w0 : World) (need sum : Int) (S : List Sh) (code : Int) (l : List UInt8) (p q r : Value) (wx : World) : Prop :=
  ∃ g A1 c1 B1 cb, p = .pointer (some ⟨g, 0, none⟩) ∧ q = .int .i64 code ∧ r = .slice B1 l.length cb ∧ w0.heap.size ≤ g ∧ Blk wx g 39 #[.int .i64 need, .int .i64 sum, .slice A1 S.length c1] ∧ ShR wx wx.heap.size A1 S.length S ∧ Rd wx wx.heap.size 1 B1 l.length (bC l) ∧ Below w0.heap.size w0 wx
theorem GAt.mk1 {w0 w5 : World} {need sum code : Int} {S : List Sh} {l : List UInt8} {A5 B5 : Option Addr} {c5 cb b : Nat} {hs : List (Option Addr × Nat)} (h : Below w0.heap.size w0 w5) (hO : ShO w5 b 31 A5 S.length c5 hs S) (ho : w5.ownsRow b 5 1 (.slice B5 l.length cb) l.length (bC l)) :
    GAt w0 need sum S code l (.pointer (some ⟨w5.heap.size, 0, none⟩)) (.int .i64 code) (.slice B5 l.length cb) (w5.alloc (.cells #[.int .i64 need, .int .i64 sum, .slice A5 S.length c5] 39)) :=
  ⟨_, A5, c5, B5, cb, rfl, rfl, rfl, h.size, Blk.new _ _ _, hO.rd.up ((Below.refl w5.heap.size w5).alloc (Nat.le_refl _) _), (own_rd ho).up ((Below.refl w5.heap.size w5).alloc (Nat.le_refl _) _), h.alloc h.size _⟩
theorem GAt.mk2 {w0 w5 : World} {need sum code : Int} {S : List Sh} {l : List UInt8} {A5 B5 : Option Addr} {c5 cb b g : Nat} {hs : List (Option Addr × Nat)} {cs : Array Value} (h : Below w0.heap.size w0 w5) (hg : w0.heap.size ≤ g) (hb : g < b) (hM : Blk w5 g 39 cs) (hcs : cs = #[.int .i64 0, .int .i64 0, .slice none 0 0]) (hO : ShO w5 b 31 A5 S.length c5 hs S) (ho : w5.ownsRow b 5 1 (.slice B5 l.length cb) l.length (bC l)) :
    GAt w0 need sum S code l (.pointer (some ⟨g, 0, none⟩)) (.int .i64 code) (.slice B5 l.length cb) (((w5.setCell ⟨g, 0, none⟩ (.int .i64 need)).setCell ⟨g, 1, none⟩ (.int .i64 sum)).setCell ⟨g, 2, none⟩ (.slice A5 S.length c5)) := by
  subst hcs
  refine ⟨g, A5, c5, B5, cb, rfl, rfl, rfl, hg, ((hM.set 0 _).set 1 _).set 2 _, ?_, ?_, ((h.setCell hg _).setCell hg _).setCell hg _⟩
  · exact (((hO.far (p := ⟨g, 0, none⟩) hb _).far (p := ⟨g, 1, none⟩) hb _).far (p := ⟨g, 2, none⟩) hb _).rd
  · exact own_rd (ownsRow_setCell_below (ownsRow_setCell_below (ownsRow_setCell_below ho hb _) hb _) hb _)
theorem fnExactGiveShare_walk (need sum : Int) (A : Option Addr) (n c : Nat) (ss : List Sh) (x : Int) (D : Option Addr) (m cd : Nat) (d : List UInt8) (w : World) (_hw : (Lit.int .i64 need).wf = true ∧ (Lit.int .i64 sum).wf = true) (hr : ShR w w.heap.size A n ss) (_hnc : n ≤ c) (_hx : (Lit.int .i64 x).wf = true) (hd : Rd w w.heap.size 1 D m (bC d)) :
    Calls Try.prog 5 #[.agg #[.int .i64 need, .int .i64 sum, .slice A n c], .agg #[.int .i64 x, .slice D m cd]] w (RetV (.bool true) w) := by
  clear _hw _hnc _hx
  have hdb := hd.bd
  obtain rfl : ss.length = n := hr.1
  obtain rfl : d.length = m := hd.bn
  by_cases hcA : cntS ss ≤ 1048576
  case neg =>
    go_enter Try.func5, Try.ntmps5
    go_wp2_with fail
    refine (szSeal_no need sum A _ c ss 1048576 _ (hr.up (by repeat (first | with_reducible exact Below.refl _ _ | with_reducible assumption | refine Below.alloc ?_ (by first | omega | (simp; done) | (simp; omega)) _ | refine Below.setCell ?_ (by first | omega | (simp; done) | (simp; omega)) _ | refine Below.drew ?_ | refine below_drewN ?_ _ | exact Below.refl _ _ | assumption))) (by omega) (by omega) (by omega)).mono ?_
    rintro e w1 ⟨rfl, hb1⟩
    have hb01 : Below w.heap.size w w1 := then_ (by repeat (first | with_reducible exact Below.refl _ _ | with_reducible assumption | refine Below.alloc ?_ (by first | omega | (simp; done) | (simp; omega)) _ | refine Below.setCell ?_ (by first | omega | (simp; done) | (simp; omega)) _ | refine Below.drew ?_ | refine below_drewN ?_ _ | exact Below.refl _ _ | assumption)) hb1 (by first | omega | (simp; done) | (simp; omega))
    go_wp2_with fail
    go_ret
    exact ⟨rfl, hb01⟩
  obtain ⟨X, hX⟩ : ∃ X : Nat, (1048576 : Int) - cntS ss = (X : Int) := ⟨1048576 - cntS ss, by omega⟩
  have CZ := hide fun (W : World) (hb : Below w.heap.size w W) => szSeal_ok need sum A _ c ss 1048576 W (hr.up hb) (by omega) (by omega)
  rw [hX] at CZ
  by_cases hcD : d.length ≤ X
  case neg =>
    have CZ2 := hide fun (W : World) => szShare_no x D d.length cd (X : Int) W (by omega) (by omega) (by omega) hdb
    clear hX
    go_enter Try.func5, Try.ntmps5
    go_wp2_with fail
    refine (CZ.out _ (by repeat (first | with_reducible exact Below.refl _ _ | with_reducible assumption | refine Below.alloc ?_ (by first | omega | (simp; done) | (simp; omega)) _ | refine Below.setCell ?_ (by first | omega | (simp; done) | (simp; omega)) _ | refine Below.drew ?_ | refine below_drewN ?_ _ | exact Below.refl _ _ | assumption))).mono ?_
    rintro e w1 ⟨rfl, hb1⟩
    have hb01 : Below w.heap.size w w1 := then_ (by repeat (first | with_reducible exact Below.refl _ _ | with_reducible assumption | refine Below.alloc ?_ (by first | omega | (simp; done) | (simp; omega)) _ | refine Below.setCell ?_ (by first | omega | (simp; done) | (simp; omega)) _ | refine Below.drew ?_ | refine below_drewN ?_ _ | exact Below.refl _ _ | assumption)) hb1 (by first | omega | (simp; done) | (simp; omega))
    have Lb : Blk w1 (w.heap.size + 1) 45 #[.int .i64 x, .slice D d.length cd] := (Blk.new1 w _ 45 #[.int .i64 x, .slice D d.length cd]).below hb1 (by simp)
    have cb := Lb.cell
    clear hb1
    go_wp2_with fail
    refine (CZ2.out _).mono ?_
    rintro e w2 ⟨rfl, hb2⟩
    have hb02 : Below w.heap.size w w2 := then_ hb01 hb2 hb01.size
    go_wp2_with fail
    go_ret
    exact ⟨rfl, hb02⟩
  obtain ⟨X2, hX2⟩ : ∃ X2 : Nat, (X : Int) - d.length = (X2 : Int) := ⟨X - d.length, by omega⟩
  have CZ2 := hide fun (W : World) => szShare_ok x D d.length cd (X : Int) W (by omega) (by omega)
  rw [hX2] at CZ2
  have hdl : ∀ k (h : k < ss.length), ss[k].2.length ≤ 1048576 := by
    intro k h
    have h1 := cntS_take_succ h
    have h2 := cntS_take_le ss (k + 1)
    omega
  have hsl := cnt_len ss
  have CTA := hide fun (W : World) (hb : Below w.heap.size w W) => toSeal_c need sum A _ c ss W (hr.up hb) (by omega) hdl
  have CTB := hide fun (W : World) (hb : Below w.heap.size w W) => toShare_c x D _ cd d W (hd.up hb) (by omega)
  have C1 : Hid (∀ (A1 A2 : Option Addr) (c1 c2 : Nat) (W : World), ShR W W.heap.size A1 ss.length ss → Rd W W.heap.size 1 A2 d.length (bC d) → Calls Try.prog 20 #[.agg #[.int .i64 need, .int .i64 sum, .slice A1 ss.length c1], .agg #[.int .i64 x, .slice A2 d.length c2]] W (RetGive need sum (gvSh need sum ss x d) (gvCode need sum ss x d) (gvOut need sum ss x d) W)) := fun A1 A2 c1 c2 W h1 h2 => GiveShare_s need sum A1 _ c1 ss x A2 _ c2 d W h1 h2 (by omega) (by omega) hdl
  have C2 : Hid (∀ (A1 A2 : Option Addr) (c1 c2 : Nat) (W : World), ShR W W.heap.size A1 ss.length ss → ss.length ≤ c1 → Rd W W.heap.size 1 A2 d.length (bC d) → Calls Try.prog 17 #[.agg #[.int .i64 need, .int .i64 sum, .slice A1 ss.length c1], .agg #[.int .i64 x, .slice A2 d.length c2]] W (RetGive need sum (gvSh need sum ss x d) (gvCode need sum ss x d) (gvOut need sum ss x d) W)) := fun A1 A2 c1 c2 W h1 hc h2 => GiveShare_i need sum A1 _ c1 ss x A2 _ c2 d W h1 h2 hc (by omega) (by omega) hdl
  have hone := give_one need sum ss x d
  have hcnt := give_cnt need sum ss x d
  have hll := give_out_len need sum ss x d
  have hcA2 : cntS ss + 1 ≤ 1048577 := by omega
  have hcD2 : d.length ≤ 1048576 := by omega
  clear hr hd hX hX2 hdl hsl hdb hcD hcA
  generalize gvSh need sum ss x d = S at C1 C2 hone hcnt
  generalize gvCode need sum ss x d = code at C1 C2
  generalize gvOut need sum ss x d = l at C1 C2 hone hll
  have CEA := hide fun (A A' : Option Addr) (c c' : Nat) (W : World) (h : ShR W W.heap.size A ss.length ss) (h2 : ShR W W.heap.size A' ss.length ss) => eqSeal_c need sum A A' _ c c' ss W h h2
  have CES := hide fun (A A' : Option Addr) (c c' : Nat) (W : World) (h : ShR W W.heap.size A S.length S) (h2 : ShR W W.heap.size A' S.length S) => eqSeal_c need sum A A' _ c c' S W h h2
  have CEB := hide fun (A A' : Option Addr) (c c' : Nat) (W : World) (h : Rd W W.heap.size 1 A d.length (bC d)) (h2 : Rd W W.heap.size 1 A' d.length (bC d)) => eqShare_c x A A' _ c c' d W h h2
  have CEK := hide fun (A A' : Option Addr) (c c' : Nat) (W : World) (h : Rd W W.heap.size 1 A l.length (bC l)) (h2 : Rd W W.heap.size 1 A' l.length (bC l)) => eqByteS_c A A' _ c c' l W _ _ h h2
  have CH := hide fun (A : Option Addr) (c : Nat) (W : World) (h : ShR W W.heap.size A S.length (markS 1 S)) => heldSeal_c need sum A _ c S W _ 1 h (Nat.le_refl _) (by omega) (by omega)
  have CHK := hide fun (A : Option Addr) (c : Nat) (W : World) (h : Rd W W.heap.size 1 A l.length (bC (markB (1 + cntS S) l.length))) => heldByteS_c A l.length c W _ (1 + cntS S) h (by omega) (by omega) (by omega)
  have hCC : (code != code) = false := by simp
  go_enter Try.func5, Try.ntmps5
  go_wp2_with fail
  refine (CZ.out _ (by repeat (first | with_reducible exact Below.refl _ _ | with_reducible assumption | refine Below.alloc ?_ (by first | omega | (simp; done) | (simp; omega)) _ | refine Below.setCell ?_ (by first | omega | (simp; done) | (simp; omega)) _ | refine Below.drew ?_ | refine below_drewN ?_ _ | exact Below.refl _ _ | assumption))).mono ?_
  rintro e w1 ⟨rfl, hb1⟩
  have hB : Below w.heap.size w w1 := then_ (by repeat (first | with_reducible exact Below.refl _ _ | with_reducible assumption | refine Below.alloc ?_ (by first | omega | (simp; done) | (simp; omega)) _ | refine Below.setCell ?_ (by first | omega | (simp; done) | (simp; omega)) _ | refine Below.drew ?_ | refine below_drewN ?_ _ | exact Below.refl _ _ | assumption)) hb1 (by first | omega | (simp; done) | (simp; omega))
  have hs1 := hb1.size
  simp only [World.size_alloc] at hs1
  have La : Blk w1 w.heap.size 44 #[.int .i64 need, .int .i64 sum, .slice A ss.length c] := ((Blk.new w 44 #[.int .i64 need, .int .i64 sum, .slice A ss.length c]).alloc _).below hb1 (by simp; omega)
  have Lb : Blk w1 (w.heap.size + 1) 45 #[.int .i64 x, .slice D d.length cd] := (Blk.new1 w _ 45 #[.int .i64 x, .slice D d.length cd]).below hb1 (by simp)
  have ca := La.cell
  have cb := Lb.cell
  clear hb1
  go_wp2_with fail
  refine (CZ2.out _).mono ?_
  rintro e w2 ⟨rfl, hb2⟩
  replace hB : Below w.heap.size w w2 := then_ hB hb2 hB.size
  have hs2 := hb2.size
  have HLA := hide (La.below hb2 (by omega))
  have HLB := hide (Lb.below hb2 (by omega))
  have HB2 := hide hB
  clear ca cb La Lb hb2 CZ CZ2 hB
  go_upto_region 8 with fail
  go_cut [6, 7, 8] (fun p q r wx => GAt w2 need sum S code l p q r wx)
  case first =>
    have q0 := HLA.out.cell 0
    have q1 := HLA.out.cell 1
    have q2 := HLA.out.cell 2
    have q3 := HLB.out.cell 0
    have q4 := HLB.out.cell 1
    have hlb2 := HLB.out.lt
    go_region_held3 (fun w' => w'.cell? ⟨w.heap.size, 0, none⟩ = some (.int .i64 need) ∧ w'.cell? ⟨w.heap.size, 1, none⟩ = some (.int .i64 sum) ∧ w'.cell? ⟨w.heap.size, 2, none⟩ = some (.slice A ss.length c) ∧ w'.cell? ⟨w.heap.size + 1, 0, none⟩ = some (.int .i64 x) ∧ w'.cell? ⟨w.heap.size + 1, 1, none⟩ = some (.slice D d.length cd)) (exact ⟨cell_old (B := w2.heap.size) q0 (by repeat (first | with_reducible exact Below.refl _ _ | with_reducible assumption | refine Below.alloc ?_ (by first | omega | (simp; done) | (simp; omega)) _ | refine Below.setCell ?_ (by first | omega | (simp; done) | (simp; omega)) _ | refine Below.drew ?_ | refine below_drewN ?_ _ | exact Below.refl _ _ | assumption)) (by first | omega | (simp; done) | (simp; omega)), cell_old (B := w2.heap.size) q1 (by repeat (first | with_reducible exact Below.refl _ _ | with_reducible assumption | refine Below.alloc ?_ (by first | omega | (simp; done) | (simp; omega)) _ | refine Below.setCell ?_ (by first | omega | (simp; done) | (simp; omega)) _ | refine Below.drew ?_ | refine below_drewN ?_ _ | exact Below.refl _ _ | assumption)) (by first | omega | (simp; done) | (simp; omega)), cell_old (B := w2.heap.size) q2 (by repeat (first | with_reducible exact Below.refl _ _ | with_reducible assumption | refine Below.alloc ?_ (by first | omega | (simp; done) | (simp; omega)) _ | refine Below.setCell ?_ (by first | omega | (simp; done) | (simp; omega)) _ | refine Below.drew ?_ | refine below_drewN ?_ _ | exact Below.refl _ _ | assumption)) (by first | omega | (simp; done) | (simp; omega)), cell_old (B := w2.heap.size) q3 (by repeat (first | with_reducible exact Below.refl _ _ | with_reducible assumption | refine Below.alloc ?_ (by first | omega | (simp; done) | (simp; omega)) _ | refine Below.setCell ?_ (by first | omega | (simp; done) | (simp; omega)) _ | refine Below.drew ?_ | refine below_drewN ?_ _ | exact Below.refl _ _ | assumption)) (by first | omega | (simp; done) | (simp; omega)), cell_old (B := w2.heap.size) q4 (by repeat (first | with_reducible exact Below.refl _ _ | with_reducible assumption | refine Below.alloc ?_ (by first | omega | (simp; done) | (simp; omega)) _ | refine Below.setCell ?_ (by first | omega | (simp; done) | (simp; omega)) _ | refine Below.drew ?_ | refine below_drewN ?_ _ | exact Below.refl _ _ | assumption)) (by first | omega | (simp; done) | (simp; omega))⟩) (first | (go_at_call 22; refine (CTB.out _ (then_ HB2.out (by repeat (first | with_reducible exact Below.refl _ _ | with_reducible assumption | refine Below.alloc ?_ (by first | omega | (simp; done) | (simp; omega)) _ | refine Below.setCell ?_ (by first | omega | (simp; done) | (simp; omega)) _ | refine Below.drew ?_ | refine below_drewN ?_ _ | exact Below.refl _ _ | assumption)) HB2.out.size)).mono ?_; rintro e w4 ⟨A4, c4, rfl, hc4, ho4, hb4⟩; have hT4 := then_ (w0 := w2) (B := w2.heap.size) (by repeat (first | with_reducible exact Below.refl _ _ | with_reducible assumption | refine Below.alloc ?_ (by first | omega | (simp; done) | (simp; omega)) _ | refine Below.setCell ?_ (by first | omega | (simp; done) | (simp; omega)) _ | refine Below.drew ?_ | refine below_drewN ?_ _ | exact Below.refl _ _ | assumption)) hb4 (by first | omega | (simp; done) | (simp; omega)); have hz4 := hT4.size; have hs4 : w3.heap.size ≤ w4.heap.size := Nat.le_trans (by first | omega | (simp; done) | (simp; omega)) hb4.size; have HR3 := hide ((HR3.out.below (B := w3.heap.size) (by repeat (first | with_reducible exact Below.refl _ _ | with_reducible assumption | refine Below.alloc ?_ (by first | omega | (simp; done) | (simp; omega)) _ | refine Below.setCell ?_ (by first | omega | (simp; done) | (simp; omega)) _ | refine Below.drew ?_ | refine below_drewN ?_ _ | exact Below.refl _ _ | assumption)) (Nat.le_refl _)).below hb4 (by first | omega | (simp; done) | (simp; omega))); have HR4 := hide (own_rd ho4); obtain ⟨hcl4, hfr4⟩ := bcell hb4; (try have hy4 : w3.heap.size < w4.heap.size := alloc_lt hb4.size)) | (go_at_call 21; refine (CTA.out _ (then_ HB2.out (by repeat (first | with_reducible exact Below.refl _ _ | with_reducible assumption | refine Below.alloc ?_ (by first | omega | (simp; done) | (simp; omega)) _ | refine Below.setCell ?_ (by first | omega | (simp; done) | (simp; omega)) _ | refine Below.drew ?_ | refine below_drewN ?_ _ | exact Below.refl _ _ | assumption)) HB2.out.size)).mono ?_; rintro e w3 ⟨A3, c3, hs3, rfl, hc3, ho3, hb3⟩; have hT3 := then_ (w0 := w2) (B := w2.heap.size) (by repeat (first | with_reducible exact Below.refl _ _ | with_reducible assumption | refine Below.alloc ?_ (by first | omega | (simp; done) | (simp; omega)) _ | refine Below.setCell ?_ (by first | omega | (simp; done) | (simp; omega)) _ | refine Below.drew ?_ | refine below_drewN ?_ _ | exact Below.refl _ _ | assumption)) hb3 (by first | omega | (simp; done) | (simp; omega)); have hz3 := hT3.size; have HR3 := hide ho3.rd; obtain ⟨hcl3, hfr3⟩ := bcell hb3; (try have hx3 : w2.heap.size < w3.heap.size := alloc_lt (show (w2.alloc (.cells #[.int .i64 0, .int .i64 0, .slice none 0 0] 39)).heap.size ≤ w3.heap.size from hb3.size))) | (go_at_call 20; refine (C1.out A3 A4 c3 c4 _ ((HR3.out.below (B := w4.heap.size) (by repeat (first | with_reducible exact Below.refl _ _ | with_reducible assumption | refine Below.alloc ?_ (by first | omega | (simp; done) | (simp; omega)) _ | refine Below.setCell ?_ (by first | omega | (simp; done) | (simp; omega)) _ | refine Below.drew ?_ | refine below_drewN ?_ _ | exact Below.refl _ _ | assumption)) (by first | omega | (simp; done) | (simp; omega))).mono (by first | omega | (simp; done) | (simp; omega))) ((HR4.out.below (B := w4.heap.size) (by repeat (first | with_reducible exact Below.refl _ _ | with_reducible assumption | refine Below.alloc ?_ (by first | omega | (simp; done) | (simp; omega)) _ | refine Below.setCell ?_ (by first | omega | (simp; done) | (simp; omega)) _ | refine Below.drew ?_ | refine below_drewN ?_ _ | exact Below.refl _ _ | assumption)) (Nat.le_refl _)).mono (by first | omega | (simp; done) | (simp; omega)))).mono ?_; rintro e w5 ⟨A5, c5, hs5, B5, cb5, rfl, hc5, hcb5, hO5, ho5, hb5⟩; have hT5 := then_ (w0 := w2) (B := w2.heap.size) (by repeat (first | with_reducible exact Below.refl _ _ | with_reducible assumption | refine Below.alloc ?_ (by first | omega | (simp; done) | (simp; omega)) _ | refine Below.setCell ?_ (by first | omega | (simp; done) | (simp; omega)) _ | refine Below.drew ?_ | refine below_drewN ?_ _ | exact Below.refl _ _ | assumption)) hb5 (by first | omega | (simp; done) | (simp; omega)); have hz5 := hT5.size; (try have hx4 : w2.heap.size < w4.heap.size := Nat.lt_of_lt_of_le hx3 hs4); obtain ⟨hcl5, hfr5⟩ := bcell hb5))
    all_goals
      go_wp2_with fail
      go_meet
    case rel => exact GAt.mk1 hT5 hO5 ho5
    case rel => exact GAt.mk2 hT5 hz4 (by show w4.heap.size < (w4.alloc (.cells #[.int .i64 0, .int .i64 0, .slice none 0 0] 39)).heap.size; simp) ((Blk.new w4 39 #[.int .i64 0, .int .i64 0, .slice none 0 0]).below hb5 (by simp)) rfl hO5 ho5
    case rel => exact GAt.mk2 hT5 hz3 hy4 (((Blk.new w3 39 #[.int .i64 0, .int .i64 0, .slice none 0 0]).below hb4 (by simp)).below hb5 hy4) rfl hO5 ho5
    case rel => exact GAt.mk2 hT5 (Nat.le_refl _) hx4 ((((Blk.new w2 39 #[.int .i64 0, .int .i64 0, .slice none 0 0]).drew.below hb3 (by show w2.heap.size < (w2.alloc (.cells #[.int .i64 0, .int .i64 0, .slice none 0 0] 39)).heap.size; simp)).below hb4 hx3).below hb5 hx4) rfl hO5 ho5
  case rest =>
    obtain ⟨g, A1, c1, B1, cb1, rfl, rfl, rfl, hg2, hbg, hrd, hrk, hbw⟩ := hcut
    have hzx := hbw.size
    have HB2' := hide (Nat.le_trans HB2.out.size hzx)
    have hgx := hbg.lt
    have HB := hide (then_ HB2.out hbw HB2.out.size)
    have HA := hide (HLA.out.below hbw HLA.out.lt)
    have HL := hide (HLB.out.below hbw HLB.out.lt)
    have HG := hide hbg
    have HS := hide hrd
    have HK := hide hrk
    have ca := HA.out.cell
    have hlbx := HL.out.lt
    clear hrd hrk hbg hbw HB2 HLA HLB C1
    go_wp2_with fail
    refine (CTA.out _ HB.out).mono ?_
    rintro e w6 ⟨A6, c6, hs6, rfl, hc6, ho6, hb6⟩
    have hz6 := hb6.size
    have hba : Below w6.heap.size w6 (w6.alloc (.cells #[.int .i64 need, .int .i64 sum, .slice A6 ss.length c6] 39)) := (by repeat (first | with_reducible exact Below.refl _ _ | with_reducible assumption | refine Below.alloc ?_ (by first | omega | (simp; done) | (simp; omega)) _ | refine Below.setCell ?_ (by first | omega | (simp; done) | (simp; omega)) _ | refine Below.drew ?_ | refine below_drewN ?_ _ | exact Below.refl _ _ | assumption))
    have HB6 := hide (then_ (then_ HB.out hb6 HB.out.size) hba (Nat.le_trans HB.out.size hz6))
    have HLa := hide ((HA.out.step hb6).1.alloc (.cells #[.int .i64 need, .int .i64 sum, .slice A6 ss.length c6] 39))
    have HLb := hide ((HL.out.step hb6).1.alloc (.cells #[.int .i64 need, .int .i64 sum, .slice A6 ss.length c6] 39))
    have HLg := hide ((HG.out.step hb6).1.alloc (.cells #[.int .i64 need, .int .i64 sum, .slice A6 ss.length c6] 39))
    have HLx := hide (Blk.new w6 39 #[.int .i64 need, .int .i64 sum, .slice A6 ss.length c6])
    have HS6 := hide ((HS.out.below hb6 (Nat.le_refl _)).below hba hz6)
    have HK6 := hide ((HK.out.below hb6 (Nat.le_refl _)).below hba hz6)
    have HX6 := hide ((ShO.w ho6).below hba (Nat.le_refl _))
    have cb := HLb.out.cell
    clear ho6 hb6 HA HL HG HS HK ca hba
    go_wp2_with fail
    refine (CTB.out _ HB6.out).mono ?_
    rintro e w7 ⟨A7, c7, rfl, hc7, ho7, hb7⟩
    have hz7 := hb7.size
    simp only [World.size_alloc] at hz7
    have hba : Below w7.heap.size w7 (w7.alloc (.cells #[.int .i64 x, .slice A7 d.length c7] 31)) := (by repeat (first | with_reducible exact Below.refl _ _ | with_reducible assumption | refine Below.alloc ?_ (by first | omega | (simp; done) | (simp; omega)) _ | refine Below.setCell ?_ (by first | omega | (simp; done) | (simp; omega)) _ | refine Below.drew ?_ | refine below_drewN ?_ _ | exact Below.refl _ _ | assumption))
    have HB7 := hide (then_ (then_ HB6.out hb7 HB6.out.size) hba (Nat.le_trans HB6.out.size hb7.size))
    have HLa := hide ((HLa.out.step hb7).1.alloc (.cells #[.int .i64 x, .slice A7 d.length c7] 31))
    have HLb := hide ((HLb.out.step hb7).1.alloc (.cells #[.int .i64 x, .slice A7 d.length c7] 31))
    have HLg := hide ((HLg.out.step hb7).1.alloc (.cells #[.int .i64 x, .slice A7 d.length c7] 31))
    have HLx := hide ((HLx.out.step hb7).1.alloc (.cells #[.int .i64 x, .slice A7 d.length c7] 31))
    have HLy := hide (Blk.new w7 31 #[.int .i64 x, .slice A7 d.length c7])
    have HS7 := hide ((HS6.out.below hb7 (by simp; omega)).below hba (by omega))
    have HK7 := hide ((HK6.out.below hb7 (by simp; omega)).below hba (by omega))
    have HX7 := hide ((HX6.out.below hb7 (by simp)).below hba (by omega))
    have ho7' := Ow.of_own ho7
    simp only [World.size_alloc] at ho7'
    have HY7 := hide (ho7'.below hba (Nat.le_refl _))
    have HX : Hid (MX 39 31 31 wc.heap.size w6.heap.size w7.heap.size #[.int .i64 need, .int .i64 sum, .slice A6 ss.length c6] #[.int .i64 x, .slice A7 d.length c7] A6 A7 hs6 ss.length d.length ss d (w7.alloc (.cells #[.int .i64 x, .slice A7 d.length c7] 31))) := ⟨HLx.out, HLy.out, HX7.out, HY7.out, hz6, hz7⟩
    have HC := hide (C2.out A6 A7 c6 c7 _ HX.out.r1 hc6 HX.out.r2)
    have cx := HLx.out.cell
    have cy := HLy.out.cell
    clear ho7 hb7 ho7' cb HS6 HK6 HX6 HX7 HY7 HB6 HLx HLy HB hba
    go_wp2_with fail
    refine HC.out.mono ?_
    rintro e w8 ⟨A8, c8, hs8, B8, cb8, rfl, hc8, hcb8, hO8, ho8, hb8⟩
    have hz8 := hb8.size
    obtain ⟨mid, hm1, hm2, hM1, hM2⟩ := give_mid hz8 hO8 ho8 hone
    simp only [World.size_alloc] at hz8 hm1 hM1
    have hba : Below w8.heap.size w8 (w8.alloc (.cells #[.int .i64 need, .int .i64 sum, .slice A8 S.length c8] 39)) := (by repeat (first | with_reducible exact Below.refl _ _ | with_reducible assumption | refine Below.alloc ?_ (by first | omega | (simp; done) | (simp; omega)) _ | refine Below.setCell ?_ (by first | omega | (simp; done) | (simp; omega)) _ | refine Below.drew ?_ | refine below_drewN ?_ _ | exact Below.refl _ _ | assumption))
    have HB8 := hide (then_ (then_ HB7.out hb8 HB7.out.size) hba (Nat.le_trans HB7.out.size hb8.size))
    have HX8 := hide ((HX.out.up hb8).up hba)
    have HM8 : Hid (MA 44 45 39 31 w.heap.size g wc.heap.size (w7.heap.size + 1) mid w8.heap.size #[.int .i64 need, .int .i64 sum, .slice A ss.length c] #[.int .i64 x, .slice D d.length cd] #[.int .i64 need, .int .i64 sum, .slice A1 S.length c1] #[.int .i64 need, .int .i64 sum, .slice A8 S.length c8] A1 A8 B1 B8 hs8 S.length l.length S S l l (w8.alloc (.cells #[.int .i64 need, .int .i64 sum, .slice A8 S.length c8] 39))) := ⟨(HLa.out.step hb8).1.alloc _, (HLb.out.step hb8).1.alloc _, (HLg.out.step hb8).1.alloc _, Blk.new w8 _ _, (HS7.out.below hb8 (by simp; omega)).below hba (by omega), (HK7.out.below hb8 (by simp; omega)).below hba (by omega), hM1.below hba hm2, hM2.below hba (Nat.le_refl _), hlbx, hgx, by omega, hm1, hm2⟩
    have HC := hide (CES.out A8 A1 c8 c1 _ HM8.out.r2 HM8.out.r1)
    have cz := HM8.out.lz.cell
    have cg := HM8.out.lg.cell
    clear ho8 hO8 hb8 cx cy HS7 HK7 HX HLa HLb HLg HB7 hba hM1 hM2
    go_wp2_with fail
    refine HC.out.mono ?_
    rintro e w9 ⟨rfl, hb9⟩
    have HB := hide (then_ HB8.out hb9 HB8.out.size)
    have HX := hide (HX8.out.up hb9)
    have HM := hide (HM8.out.up hb9)
    have HC := hide (CEK.out B8 B1 cb8 cb1 _ HM.out.k2 HM.out.k1)
    clear hb9 cz cg HX8 HM8 HB8
    go_wp2_with fail
    refine HC.out.mono ?_
    rintro e w9b ⟨rfl, hb9⟩
    have HB := hide (then_ HB.out hb9 HB.out.size)
    have HX := hide (HX.out.up hb9)
    have HM := hide (HM.out.up hb9)
    clear hb9 HC
    go_wp2_with fail
    have q0 := HM.out.la.cell 0
    have q1 := HM.out.la.cell 1
    have q2 := HM.out.la.cell 2
    have q3 := HX.out.lx.cell 0
    have q4 := HX.out.lx.cell 1
    have q5 := HX.out.lx.cell 2
    have hk1 := HM.out.la.lt
    have hk2 := HX.out.lx.lt
    go_region_held3 (fun w' => w'.cell? ⟨w.heap.size, 0, none⟩ = some (.int .i64 need) ∧ w'.cell? ⟨w.heap.size, 1, none⟩ = some (.int .i64 sum) ∧ w'.cell? ⟨w.heap.size, 2, none⟩ = some (.slice A ss.length c) ∧ w'.cell? ⟨w6.heap.size, 0, none⟩ = some (.int .i64 need) ∧ w'.cell? ⟨w6.heap.size, 1, none⟩ = some (.int .i64 sum) ∧ w'.cell? ⟨w6.heap.size, 2, none⟩ = some (.slice A6 ss.length c6)) (exact ⟨cell_old (B := w9b.heap.size) q0 (by repeat (first | with_reducible exact Below.refl _ _ | with_reducible assumption | refine Below.alloc ?_ (by first | omega | (simp; done) | (simp; omega)) _ | refine Below.setCell ?_ (by first | omega | (simp; done) | (simp; omega)) _ | refine Below.drew ?_ | refine below_drewN ?_ _ | exact Below.refl _ _ | assumption)) (by first | omega | (simp; done) | (simp; omega)), cell_old (B := w9b.heap.size) q1 (by repeat (first | with_reducible exact Below.refl _ _ | with_reducible assumption | refine Below.alloc ?_ (by first | omega | (simp; done) | (simp; omega)) _ | refine Below.setCell ?_ (by first | omega | (simp; done) | (simp; omega)) _ | refine Below.drew ?_ | refine below_drewN ?_ _ | exact Below.refl _ _ | assumption)) (by first | omega | (simp; done) | (simp; omega)), cell_old (B := w9b.heap.size) q2 (by repeat (first | with_reducible exact Below.refl _ _ | with_reducible assumption | refine Below.alloc ?_ (by first | omega | (simp; done) | (simp; omega)) _ | refine Below.setCell ?_ (by first | omega | (simp; done) | (simp; omega)) _ | refine Below.drew ?_ | refine below_drewN ?_ _ | exact Below.refl _ _ | assumption)) (by first | omega | (simp; done) | (simp; omega)), cell_old (B := w9b.heap.size) q3 (by repeat (first | with_reducible exact Below.refl _ _ | with_reducible assumption | refine Below.alloc ?_ (by first | omega | (simp; done) | (simp; omega)) _ | refine Below.setCell ?_ (by first | omega | (simp; done) | (simp; omega)) _ | refine Below.drew ?_ | refine below_drewN ?_ _ | exact Below.refl _ _ | assumption)) (by first | omega | (simp; done) | (simp; omega)), cell_old (B := w9b.heap.size) q4 (by repeat (first | with_reducible exact Below.refl _ _ | with_reducible assumption | refine Below.alloc ?_ (by first | omega | (simp; done) | (simp; omega)) _ | refine Below.setCell ?_ (by first | omega | (simp; done) | (simp; omega)) _ | refine Below.drew ?_ | refine below_drewN ?_ _ | exact Below.refl _ _ | assumption)) (by first | omega | (simp; done) | (simp; omega)), cell_old (B := w9b.heap.size) q5 (by repeat (first | with_reducible exact Below.refl _ _ | with_reducible assumption | refine Below.alloc ?_ (by first | omega | (simp; done) | (simp; omega)) _ | refine Below.setCell ?_ (by first | omega | (simp; done) | (simp; omega)) _ | refine Below.drew ?_ | refine below_drewN ?_ _ | exact Below.refl _ _ | assumption)) (by first | omega | (simp; done) | (simp; omega))⟩) (first | (go_at_call 21; refine (CTA.out _ (then_ HB.out (by repeat (first | with_reducible exact Below.refl _ _ | with_reducible assumption | refine Below.alloc ?_ (by first | omega | (simp; done) | (simp; omega)) _ | refine Below.setCell ?_ (by first | omega | (simp; done) | (simp; omega)) _ | refine Below.drew ?_ | refine below_drewN ?_ _ | exact Below.refl _ _ | assumption)) HB.out.size)).mono ?_; rintro e w10 ⟨A10, c10, hs10, rfl, hc10, ho10, hb10⟩; have hT10 := then_ (w0 := w9b) (B := w9b.heap.size) (by repeat (first | with_reducible exact Below.refl _ _ | with_reducible assumption | refine Below.alloc ?_ (by first | omega | (simp; done) | (simp; omega)) _ | refine Below.setCell ?_ (by first | omega | (simp; done) | (simp; omega)) _ | refine Below.drew ?_ | refine below_drewN ?_ _ | exact Below.refl _ _ | assumption)) hb10 (by first | omega | (simp; done) | (simp; omega)); have hz10 := hT10.size; have HR10 := hide (ho10.rd); obtain ⟨hcl10, hfr10⟩ := bcell hb10) | (go_at_call 23; refine (CEA.out A6 A10 c6 c10 _ ((HX.out.r1.below (B := w9b.heap.size) (by repeat (first | with_reducible exact Below.refl _ _ | with_reducible assumption | refine Below.alloc ?_ (by first | omega | (simp; done) | (simp; omega)) _ | refine Below.setCell ?_ (by first | omega | (simp; done) | (simp; omega)) _ | refine Below.drew ?_ | refine below_drewN ?_ _ | exact Below.refl _ _ | assumption)) (Nat.le_refl _)).mono (by first | omega | (simp; done) | (simp; omega))) ((HR10.out.below (B := w10.heap.size) (by repeat (first | with_reducible exact Below.refl _ _ | with_reducible assumption | refine Below.alloc ?_ (by first | omega | (simp; done) | (simp; omega)) _ | refine Below.setCell ?_ (by first | omega | (simp; done) | (simp; omega)) _ | refine Below.drew ?_ | refine below_drewN ?_ _ | exact Below.refl _ _ | assumption)) (Nat.le_refl _)).mono (by first | omega | (simp; done) | (simp; omega)))).mono ?_; rintro e w11 ⟨rfl, hb11⟩; have hT11 := then_ (w0 := w9b) (B := w9b.heap.size) (by repeat (first | with_reducible exact Below.refl _ _ | with_reducible assumption | refine Below.alloc ?_ (by first | omega | (simp; done) | (simp; omega)) _ | refine Below.setCell ?_ (by first | omega | (simp; done) | (simp; omega)) _ | refine Below.drew ?_ | refine below_drewN ?_ _ | exact Below.refl _ _ | assumption)) hb11 (by first | omega | (simp; done) | (simp; omega)); obtain ⟨hcl11, hfr11⟩ := bcell hb11))
    have HB := hide (then_ HB.out hT11 HB.out.size)
    have HX := hide (HX.out.up hT11)
    have HM := hide (HM.out.up hT11)
    clear q0 q1 q2 q3 q4 q5 hk1 hk2 hT10 hz10 HR10 hcl10 hfr10 hT11 hcl11 hfr11 hc10 ho10 hb10 hb11
    go_wp2_with fail
    have q0 := HM.out.lb.cell 0
    have q1 := HM.out.lb.cell 1
    have q2 := HX.out.ly.cell 0
    have q3 := HX.out.ly.cell 1
    have hk1 := HM.out.lb.lt
    have hk2 := HX.out.ly.lt
    go_region_held3 (fun w' => w'.cell? ⟨w.heap.size + 1, 0, none⟩ = some (.int .i64 x) ∧ w'.cell? ⟨w.heap.size + 1, 1, none⟩ = some (.slice D d.length cd) ∧ w'.cell? ⟨w7.heap.size, 0, none⟩ = some (.int .i64 x) ∧ w'.cell? ⟨w7.heap.size, 1, none⟩ = some (.slice A7 d.length c7)) (exact ⟨cell_old (B := w11.heap.size) q0 (by repeat (first | with_reducible exact Below.refl _ _ | with_reducible assumption | refine Below.alloc ?_ (by first | omega | (simp; done) | (simp; omega)) _ | refine Below.setCell ?_ (by first | omega | (simp; done) | (simp; omega)) _ | refine Below.drew ?_ | refine below_drewN ?_ _ | exact Below.refl _ _ | assumption)) (by first | omega | (simp; done) | (simp; omega)), cell_old (B := w11.heap.size) q1 (by repeat (first | with_reducible exact Below.refl _ _ | with_reducible assumption | refine Below.alloc ?_ (by first | omega | (simp; done) | (simp; omega)) _ | refine Below.setCell ?_ (by first | omega | (simp; done) | (simp; omega)) _ | refine Below.drew ?_ | refine below_drewN ?_ _ | exact Below.refl _ _ | assumption)) (by first | omega | (simp; done) | (simp; omega)), cell_old (B := w11.heap.size) q2 (by repeat (first | with_reducible exact Below.refl _ _ | with_reducible assumption | refine Below.alloc ?_ (by first | omega | (simp; done) | (simp; omega)) _ | refine Below.setCell ?_ (by first | omega | (simp; done) | (simp; omega)) _ | refine Below.drew ?_ | refine below_drewN ?_ _ | exact Below.refl _ _ | assumption)) (by first | omega | (simp; done) | (simp; omega)), cell_old (B := w11.heap.size) q3 (by repeat (first | with_reducible exact Below.refl _ _ | with_reducible assumption | refine Below.alloc ?_ (by first | omega | (simp; done) | (simp; omega)) _ | refine Below.setCell ?_ (by first | omega | (simp; done) | (simp; omega)) _ | refine Below.drew ?_ | refine below_drewN ?_ _ | exact Below.refl _ _ | assumption)) (by first | omega | (simp; done) | (simp; omega))⟩) (first | (go_at_call 22; refine (CTB.out _ (then_ HB.out (by repeat (first | with_reducible exact Below.refl _ _ | with_reducible assumption | refine Below.alloc ?_ (by first | omega | (simp; done) | (simp; omega)) _ | refine Below.setCell ?_ (by first | omega | (simp; done) | (simp; omega)) _ | refine Below.drew ?_ | refine below_drewN ?_ _ | exact Below.refl _ _ | assumption)) HB.out.size)).mono ?_; rintro e w12 ⟨A10, c10, rfl, hc10, ho10, hb10⟩; have hT10 := then_ (w0 := w11) (B := w11.heap.size) (by repeat (first | with_reducible exact Below.refl _ _ | with_reducible assumption | refine Below.alloc ?_ (by first | omega | (simp; done) | (simp; omega)) _ | refine Below.setCell ?_ (by first | omega | (simp; done) | (simp; omega)) _ | refine Below.drew ?_ | refine below_drewN ?_ _ | exact Below.refl _ _ | assumption)) hb10 (by first | omega | (simp; done) | (simp; omega)); have hz10 := hT10.size; have HR10 := hide (own_rd ho10); obtain ⟨hcl10, hfr10⟩ := bcell hb10) | (go_at_call 25; refine (CEB.out A7 A10 c7 c10 _ ((HX.out.r2.below (B := w11.heap.size) (by repeat (first | with_reducible exact Below.refl _ _ | with_reducible assumption | refine Below.alloc ?_ (by first | omega | (simp; done) | (simp; omega)) _ | refine Below.setCell ?_ (by first | omega | (simp; done) | (simp; omega)) _ | refine Below.drew ?_ | refine below_drewN ?_ _ | exact Below.refl _ _ | assumption)) (Nat.le_refl _)).mono (by first | omega | (simp; done) | (simp; omega))) ((HR10.out.below (B := w12.heap.size) (by repeat (first | with_reducible exact Below.refl _ _ | with_reducible assumption | refine Below.alloc ?_ (by first | omega | (simp; done) | (simp; omega)) _ | refine Below.setCell ?_ (by first | omega | (simp; done) | (simp; omega)) _ | refine Below.drew ?_ | refine below_drewN ?_ _ | exact Below.refl _ _ | assumption)) (Nat.le_refl _)).mono (by first | omega | (simp; done) | (simp; omega)))).mono ?_; rintro e w13 ⟨rfl, hb11⟩; have hT11 := then_ (w0 := w11) (B := w11.heap.size) (by repeat (first | with_reducible exact Below.refl _ _ | with_reducible assumption | refine Below.alloc ?_ (by first | omega | (simp; done) | (simp; omega)) _ | refine Below.setCell ?_ (by first | omega | (simp; done) | (simp; omega)) _ | refine Below.drew ?_ | refine below_drewN ?_ _ | exact Below.refl _ _ | assumption)) hb11 (by first | omega | (simp; done) | (simp; omega)); obtain ⟨hcl11, hfr11⟩ := bcell hb11))
    have HB := hide (then_ HB.out hT11 HB.out.size)
    have HX := hide (HX.out.up hT11)
    have HM := hide (HM.out.up hT11)
    clear q0 q1 q2 q3 hk1 hk2 hT10 hz10 HR10 hcl10 hfr10 hT11 hcl11 hfr11 hc10 ho10 hb10 hb11
    have cx := HX.out.lx.cell
    have hlX := HX.out.lt
    have HKK := hide (markSeal_m need sum A6 _ c6 hs6 ss w13 wc.heap.size w6.heap.size 1 HX.out.ox (by omega) (by omega) (by omega))
    go_wp2_with fail
    refine HKK.out.mono ?_
    rintro e w14 ⟨rfl, how14, hT14⟩
    have HB := hide (HB.out.trans ((hT14.below (B := wc.heap.size) (Nat.le_refl _) (by omega)).mono (by have := HB2'.out; omega)))
    have HX := hide (HX.out.mark hT14 how14)
    have HM := hide (HM.out.mkd hT14 (Nat.le_refl _) (by omega))
    have hz14 := hT14.size
    obtain ⟨M1, hM1⟩ : ∃ M1 : Nat, (1 : Int) + cntS ss = (M1 : Int) := ⟨1 + cntS ss, by omega⟩
    rw [hM1]
    have HKK := hide (markShare_m x A7 _ c7 d w14 (w6.heap.size + 1) w7.heap.size (M1 : Int) HX.out.oy (by omega) (by omega) (by omega) (by omega))
    have cy := HX.out.ly.cell
    clear hT14 how14 cx
    go_wp2_with fail
    refine HKK.out.mono ?_
    rintro e w15 ⟨rfl, how15, hT15⟩
    have HB := hide (HB.out.trans ((hT15.below (B := wc.heap.size) (by omega) (by omega)).mono (by have := HB2'.out; omega)))
    have HM := hide (HM.out.mkd hT15 (by omega) (by omega))
    have hz15 := hT15.size
    obtain ⟨M2, hM2⟩ : ∃ M2 : Nat, (M1 : Int) + d.length = (M2 : Int) := ⟨M1 + d.length, by omega⟩
    rw [hM2]
    have hM20 : ¬ (M2 : Int) < 0 := by omega
    have HC := hide (CES.out A8 A1 c8 c1 _ HM.out.r2 HM.out.r1)
    have cz := HM.out.lz.cell
    have cg := HM.out.lg.cell
    clear hT15 how15 cy hlX HX HKK hM1 hM2
    go_wp2_with fail
    refine HC.out.mono ?_
    rintro e w16 ⟨rfl, hb16⟩
    have HB := hide (then_ HB.out hb16 HB.out.size)
    have HM := hide (HM.out.up hb16)
    have HC := hide (CEK.out B8 B1 cb8 cb1 _ HM.out.k2 HM.out.k1)
    clear hb16 cz cg
    go_wp2_with fail
    refine HC.out.mono ?_
    rintro e w16b ⟨rfl, hb16⟩
    have HB := hide (then_ HB.out hb16 HB.out.size)
    have HM := hide (HM.out.up hb16)
    have hlM := HM.out.lt
    have HKK := hide (markSeal_m need sum A8 _ c8 hs8 S w16b (w7.heap.size + 1) mid 1 HM.out.own (by omega) (by omega) (by omega))
    have cz := HM.out.lz.cell
    clear hb16 HC hM20
    go_wp2_with fail
    refine HKK.out.mono ?_
    rintro e w17 ⟨rfl, how17, hT17⟩
    have HB := hide (HB.out.trans ((hT17.below (B := wc.heap.size) (by omega) (by omega)).mono (by have := HB2'.out; omega)))
    have HM := hide (HM.out.mark1 hT17 how17)
    have hz17 := hT17.size
    have HKK := hide (markByteS_m B8 _ cb8 l w17 mid w8.heap.size (1 + cntS S) HM.out.key (by omega) (by omega) (by omega))
    clear hT17 how17
    go_wp2_with fail
    refine HKK.out.mono ?_
    rintro e w18 ⟨rfl, how18, hT18⟩
    have HB := hide (HB.out.trans ((hT18.below (B := wc.heap.size) (by omega) (by omega)).mono (by have := HB2'.out; omega)))
    have HM := hide (HM.out.mark2 hT18 how18)
    have HH := hide (CH.out A8 c8 w18 HM.out.r2)
    have cz := HM.out.lz.cell
    obtain ⟨M3, hM3⟩ : ∃ M3 : Nat, (1 : Int) + cntS S = (M3 : Int) := ⟨1 + cntS S, by omega⟩
    obtain ⟨M4, hM4⟩ : ∃ M4 : Nat, (M3 : Int) + l.length = (M4 : Int) := ⟨M3 + l.length, by omega⟩
    have hM30 : ¬ (M3 : Int) < 0 := by omega
    have hM40 : ¬ (M4 : Int) < 0 := by omega
    rw [hM3] at HH CHK ⊢
    rw [hM4] at CHK ⊢
    have HM3 := hide hM3
    have HM : Hid (MA 44 45 39 31 w.heap.size g wc.heap.size (w7.heap.size + 1) mid w8.heap.size #[.int .i64 need, .int .i64 sum, .slice A ss.length c] #[.int .i64 x, .slice D d.length cd] #[.int .i64 need, .int .i64 sum, .slice A1 S.length c1] #[.int .i64 need, .int .i64 sum, .slice A8 S.length c8] A1 A8 B1 B8 hs8 S.length l.length S (markS 1 S) l (markB (M3 : Int) l.length) w18) := by rw [← hM3]; exact HM.out
    clear hT18 how18 HKK hlM hM3 hM4
    go_wp2_with fail
    refine HH.out.mono ?_
    rintro e w19 ⟨rfl, hb19⟩
    have HB := hide (then_ HB.out hb19 HB.out.size)
    have HM := hide (HM.out.up hb19)
    have HH := hide (CHK.out B8 cb8 w19 HM.out.k2)
    clear hb19 cz
    go_wp2_with fail
    refine HH.out.mono ?_
    rintro e w19b ⟨rfl, hb19⟩
    have HB := hide (then_ HB.out hb19 HB.out.size)
    have HM := hide (HM.out.up hb19)
    clear hb19 HH
    go_upto_region 35 with fail
    have HLA := hide HM.out.la
    have HLB := hide HM.out.lb
    go_cut [17, 18, 19] (fun p q r wx => GAt w19b need sum S code l p q r wx)
    case first =>
      have q0 := HLA.out.cell 0
      have q1 := HLA.out.cell 1
      have q2 := HLA.out.cell 2
      have q3 := HLB.out.cell 0
      have q4 := HLB.out.cell 1
      have hlb2 := HLB.out.lt
      go_region_held3 (fun w' => w'.cell? ⟨w.heap.size, 0, none⟩ = some (.int .i64 need) ∧ w'.cell? ⟨w.heap.size, 1, none⟩ = some (.int .i64 sum) ∧ w'.cell? ⟨w.heap.size, 2, none⟩ = some (.slice A ss.length c) ∧ w'.cell? ⟨w.heap.size + 1, 0, none⟩ = some (.int .i64 x) ∧ w'.cell? ⟨w.heap.size + 1, 1, none⟩ = some (.slice D d.length cd)) (exact ⟨cell_old (B := w19b.heap.size) q0 (by repeat (first | with_reducible exact Below.refl _ _ | with_reducible assumption | refine Below.alloc ?_ (by first | omega | (simp; done) | (simp; omega)) _ | refine Below.setCell ?_ (by first | omega | (simp; done) | (simp; omega)) _ | refine Below.drew ?_ | refine below_drewN ?_ _ | exact Below.refl _ _ | assumption)) (by first | omega | (simp; done) | (simp; omega)), cell_old (B := w19b.heap.size) q1 (by repeat (first | with_reducible exact Below.refl _ _ | with_reducible assumption | refine Below.alloc ?_ (by first | omega | (simp; done) | (simp; omega)) _ | refine Below.setCell ?_ (by first | omega | (simp; done) | (simp; omega)) _ | refine Below.drew ?_ | refine below_drewN ?_ _ | exact Below.refl _ _ | assumption)) (by first | omega | (simp; done) | (simp; omega)), cell_old (B := w19b.heap.size) q2 (by repeat (first | with_reducible exact Below.refl _ _ | with_reducible assumption | refine Below.alloc ?_ (by first | omega | (simp; done) | (simp; omega)) _ | refine Below.setCell ?_ (by first | omega | (simp; done) | (simp; omega)) _ | refine Below.drew ?_ | refine below_drewN ?_ _ | exact Below.refl _ _ | assumption)) (by first | omega | (simp; done) | (simp; omega)), cell_old (B := w19b.heap.size) q3 (by repeat (first | with_reducible exact Below.refl _ _ | with_reducible assumption | refine Below.alloc ?_ (by first | omega | (simp; done) | (simp; omega)) _ | refine Below.setCell ?_ (by first | omega | (simp; done) | (simp; omega)) _ | refine Below.drew ?_ | refine below_drewN ?_ _ | exact Below.refl _ _ | assumption)) (by first | omega | (simp; done) | (simp; omega)), cell_old (B := w19b.heap.size) q4 (by repeat (first | with_reducible exact Below.refl _ _ | with_reducible assumption | refine Below.alloc ?_ (by first | omega | (simp; done) | (simp; omega)) _ | refine Below.setCell ?_ (by first | omega | (simp; done) | (simp; omega)) _ | refine Below.drew ?_ | refine below_drewN ?_ _ | exact Below.refl _ _ | assumption)) (by first | omega | (simp; done) | (simp; omega))⟩) (first | (go_at_call 22; refine (CTB.out _ (then_ HB.out (by repeat (first | with_reducible exact Below.refl _ _ | with_reducible assumption | refine Below.alloc ?_ (by first | omega | (simp; done) | (simp; omega)) _ | refine Below.setCell ?_ (by first | omega | (simp; done) | (simp; omega)) _ | refine Below.drew ?_ | refine below_drewN ?_ _ | exact Below.refl _ _ | assumption)) HB.out.size)).mono ?_; rintro e w21 ⟨A4, c4, rfl, hc4, ho4, hb4⟩; have hT4 := then_ (w0 := w19b) (B := w19b.heap.size) (by repeat (first | with_reducible exact Below.refl _ _ | with_reducible assumption | refine Below.alloc ?_ (by first | omega | (simp; done) | (simp; omega)) _ | refine Below.setCell ?_ (by first | omega | (simp; done) | (simp; omega)) _ | refine Below.drew ?_ | refine below_drewN ?_ _ | exact Below.refl _ _ | assumption)) hb4 (by first | omega | (simp; done) | (simp; omega)); have hz4 := hT4.size; have hs4 : w20.heap.size ≤ w21.heap.size := Nat.le_trans (by first | omega | (simp; done) | (simp; omega)) hb4.size; have HR3 := hide ((HR3.out.below (B := w20.heap.size) (by repeat (first | with_reducible exact Below.refl _ _ | with_reducible assumption | refine Below.alloc ?_ (by first | omega | (simp; done) | (simp; omega)) _ | refine Below.setCell ?_ (by first | omega | (simp; done) | (simp; omega)) _ | refine Below.drew ?_ | refine below_drewN ?_ _ | exact Below.refl _ _ | assumption)) (Nat.le_refl _)).below hb4 (by first | omega | (simp; done) | (simp; omega))); have HR4 := hide (own_rd ho4); obtain ⟨hcl4, hfr4⟩ := bcell hb4; (try have hy4 : w20.heap.size < w21.heap.size := alloc_lt hb4.size)) | (go_at_call 21; refine (CTA.out _ (then_ HB.out (by repeat (first | with_reducible exact Below.refl _ _ | with_reducible assumption | refine Below.alloc ?_ (by first | omega | (simp; done) | (simp; omega)) _ | refine Below.setCell ?_ (by first | omega | (simp; done) | (simp; omega)) _ | refine Below.drew ?_ | refine below_drewN ?_ _ | exact Below.refl _ _ | assumption)) HB.out.size)).mono ?_; rintro e w20 ⟨A3, c3, hs3, rfl, hc3, ho3, hb3⟩; have hT3 := then_ (w0 := w19b) (B := w19b.heap.size) (by repeat (first | with_reducible exact Below.refl _ _ | with_reducible assumption | refine Below.alloc ?_ (by first | omega | (simp; done) | (simp; omega)) _ | refine Below.setCell ?_ (by first | omega | (simp; done) | (simp; omega)) _ | refine Below.drew ?_ | refine below_drewN ?_ _ | exact Below.refl _ _ | assumption)) hb3 (by first | omega | (simp; done) | (simp; omega)); have hz3 := hT3.size; have HR3 := hide ho3.rd; obtain ⟨hcl3, hfr3⟩ := bcell hb3; (try have hx3 : w19b.heap.size < w20.heap.size := alloc_lt (show (w19b.alloc (.cells #[.int .i64 0, .int .i64 0, .slice none 0 0] 39)).heap.size ≤ w20.heap.size from hb3.size))) | (go_at_call 17; refine (C2.out A3 A4 c3 c4 _ ((HR3.out.below (B := w21.heap.size) (by repeat (first | with_reducible exact Below.refl _ _ | with_reducible assumption | refine Below.alloc ?_ (by first | omega | (simp; done) | (simp; omega)) _ | refine Below.setCell ?_ (by first | omega | (simp; done) | (simp; omega)) _ | refine Below.drew ?_ | refine below_drewN ?_ _ | exact Below.refl _ _ | assumption)) (by first | omega | (simp; done) | (simp; omega))).mono (by first | omega | (simp; done) | (simp; omega))) hc3 ((HR4.out.below (B := w21.heap.size) (by repeat (first | with_reducible exact Below.refl _ _ | with_reducible assumption | refine Below.alloc ?_ (by first | omega | (simp; done) | (simp; omega)) _ | refine Below.setCell ?_ (by first | omega | (simp; done) | (simp; omega)) _ | refine Below.drew ?_ | refine below_drewN ?_ _ | exact Below.refl _ _ | assumption)) (Nat.le_refl _)).mono (by first | omega | (simp; done) | (simp; omega)))).mono ?_; rintro e w22 ⟨A5, c5, hs5, B5, cb5, rfl, hc5, hcb5, hO5, ho5, hb5⟩; have hT5 := then_ (w0 := w19b) (B := w19b.heap.size) (by repeat (first | with_reducible exact Below.refl _ _ | with_reducible assumption | refine Below.alloc ?_ (by first | omega | (simp; done) | (simp; omega)) _ | refine Below.setCell ?_ (by first | omega | (simp; done) | (simp; omega)) _ | refine Below.drew ?_ | refine below_drewN ?_ _ | exact Below.refl _ _ | assumption)) hb5 (by first | omega | (simp; done) | (simp; omega)); have hz5 := hT5.size; (try have hx4 : w19b.heap.size < w21.heap.size := Nat.lt_of_lt_of_le hx3 hs4); obtain ⟨hcl5, hfr5⟩ := bcell hb5))
      all_goals
        go_wp2_with fail
        go_meet
      case rel => exact GAt.mk1 hT5 hO5 ho5
      case rel => exact GAt.mk2 hT5 hz4 (by show w21.heap.size < (w21.alloc (.cells #[.int .i64 0, .int .i64 0, .slice none 0 0] 39)).heap.size; simp) ((Blk.new w21 39 #[.int .i64 0, .int .i64 0, .slice none 0 0]).below hb5 (by simp)) rfl hO5 ho5
      case rel => exact GAt.mk2 hT5 hz3 hy4 (((Blk.new w20 39 #[.int .i64 0, .int .i64 0, .slice none 0 0]).below hb4 (by simp)).below hb5 hy4) rfl hO5 ho5
      case rel => exact GAt.mk2 hT5 (Nat.le_refl _) hx4 ((((Blk.new w19b 39 #[.int .i64 0, .int .i64 0, .slice none 0 0]).drew.below hb3 (by show w19b.heap.size < (w19b.alloc (.cells #[.int .i64 0, .int .i64 0, .slice none 0 0] 39)).heap.size; simp)).below hb4 hx3).below hb5 hx4) rfl hO5 ho5
    case rest =>
      obtain ⟨g2, A2, c2, B2, cb2, rfl, rfl, rfl, hg22, hbg2, hrd2, hrk2, hbw2⟩ := hcut
      have HB := hide (then_ HB.out hbw2 HB.out.size)
      have HM := hide (HM.out.up hbw2)
      have HC := hide (CES.out A2 A1 c2 c1 _ hrd2 HM.out.r1)
      have HK2 := hide hrk2
      have ch := hbg2.cell
      have cg := HM.out.lg.cell
      clear hbg2 hrd2 hrk2 hbw2 HLA HLB
      go_wp2_with fail
      refine HC.out.mono ?_
      rintro e w24 ⟨rfl, hb24⟩
      have HB := hide (then_ HB.out hb24 HB.out.size)
      have HM := hide (HM.out.up hb24)
      have HC := hide (CEK.out B2 B1 cb2 cb1 _ (HK2.out.up hb24) HM.out.k1)
      clear hb24 ch cg
      go_wp2_with fail
      refine HC.out.mono ?_
      rintro e w25 ⟨rfl, hb25⟩
      have HB := hide (then_ HB.out hb25 HB.out.size)
      have HM := hide (HM.out.up hb25)
      have hHH := CH.out A8 c8 w25 HM.out.r2
      rw [HM3.out] at hHH
      have HH := hide hHH
      have cz := HM.out.lz.cell
      clear hb25 HC hHH
      go_wp2_with fail
      refine HH.out.mono ?_
      rintro e w26 ⟨rfl, hb26⟩
      have HB := hide (then_ HB.out hb26 HB.out.size)
      have HM := hide (HM.out.up hb26)
      have HH := hide (CHK.out B8 cb8 w26 HM.out.k2)
      clear hb26 cz
      go_wp2_with fail
      refine HH.out.mono ?_
      rintro e w27 ⟨rfl, hb27⟩
      have HB := hide (then_ HB.out hb27 HB.out.size)
      clear hb27
      go_wp2_with fail
      go_ret
      exact ⟨rfl, HB.out⟩
end Go.Proofs.Ytgkjgaijjihmgaa
