/- What the most specific rule for a path is, in the program and in its reference; each contract says for which arguments. -/
import Derived.Test.YtmjmjloiblbhcaaDoorC6
import Derived.Test.YtmjmjloiblbhcaaDoorB7
import Derived.Test.YtmjmjloiblbhcaaDoorQ6
namespace Go.Proofs.YtmjmjloiblbhcaaDoor
open Go.RowKit
set_option maxRecDepth 100000
set_option maxHeartbeats 400000
theorem Blk.set {w : World} {b t : Nat} {cs : Array Value} (h : Blk w b t cs) (i : Nat) (u : Value) : Blk (w.setCell ⟨b, i, none⟩ u) b t (cs.setIfInBounds i u) := heap_setCell_same w b i cs t u h
theorem Blk.new1 (w : World) (o : Obj) (t : Nat) (cs : Array Value) : Blk ((w.alloc o).alloc (.cells cs t)) (w.heap.size + 1) t cs := by
  have := Blk.new (w.alloc o) t cs
  simpa using this
theorem Blk.new2 (w : World) (o o' : Obj) (t : Nat) (cs : Array Value) : Blk (((w.alloc o).alloc o').alloc (.cells cs t)) (w.heap.size + 1 + 1) t cs := by
  have := Blk.new ((w.alloc o).alloc o') t cs
  simpa using this
/-- a block of two cells, both set -/
theorem Blk.set2 {w : World} {b t : Nat} {u0 u1 v0 v1 : Value} (h : Blk w b t #[u0, u1]) : Blk ((w.setCell ⟨b, 0, none⟩ v0).setCell ⟨b, 1, none⟩ v1) b t #[v0, v1] := (h.set 0 v0).set 1 v1
def RetRl (st : Rl × Bool) (w : World) : Ending → World → Prop := RetV (.tuple #[.agg #[.string st.1.1, .int .i64 st.1.2], .bool st.2]) w
theorem ruleFor_c (nm : ByteArray) (A : Option Addr) (c : Nat) (l : List Rl) (p : ByteArray) (w : World) (hg : GM w) (hr : Rd w w.heap.size 2 A l.length (rC l)) (hz : ∀ x ∈ l, x.1.size < 4294967281) (hp : p.size < 4294967281) :
    Calls Tryd.prog 56 #[.agg #[.string nm, .slice A l.length c], .string p] w (RetRl (ruleA l p l.length) w) := by
  have hn := hr.bd
  go_enter Tryd.func56, Tryd.ntmps56
  go_wp2_with fail
  go_loopw [7, 9, 13] (fun fv _ iv wr => ∃ k : Nat, k ≤ l.length ∧ iv = .int .i64 k ∧ fv = .bool (ruleA l p k).2 ∧ Below w.heap.size w wr ∧ Blk wr (w.heap.size + 1) 53 #[.string ⟨#[]⟩, .int .i64 0] ∧ Blk wr (w.heap.size + 1 + 1) 53 #[.string (ruleA l p k).1.1, .int .i64 (ruleA l p k).1.2]) (fun _ _ iv _ => l.length - (intOf iv).toNat)
  case atStart => exact ⟨0, by omega, rfl, rfl, (by repeat (first | with_reducible exact Below.refl _ _ | with_reducible assumption | refine Below.alloc ?_ (by first | omega | (simp; done) | (simp; omega)) _ | refine Below.setCell ?_ (by first | omega | (simp; done) | (simp; omega)) _ | refine Below.drew ?_ | refine below_drewN ?_ _ | exact Below.refl _ _ | assumption)), (Blk.new1 _ _ _ _).alloc _, Blk.new2 _ _ _ _ _⟩
  case round =>
    obtain ⟨k, hk, rfl, rfl, hb, hb1, hb2⟩ := hrel
    have hz2 : w.heap.size + 1 + 1 < wr.heap.size := hb2.lt
    have HB := hide hb
    by_cases hlt : k < l.length
    · obtain ⟨b, off, rfl, hblt, hl, hc0, hc1⟩ := (hr.below hb (Nat.le_refl _)).rule hlt
      have hzk := hz _ (List.getElem_mem hl)
      have HT := hide (ruleA_take (p := p) hl)
      have HK := hide (ruleA_keep (p := p) hl)
      have hCV := hide fun (W : World) (hB : Below w.heap.size w W) => covers_c l[k].1 p W (hg.up hB) hzk hp
      have HTK : Hid (takesR p (ruleA l p k) l[k] = (coversB l[k].1 p && (!(ruleA l p k).2 || decide (0 < cmpA l[k].1 (ruleA l p k).1.1)))) := rfl
      have hbest : (ruleA l p k).1.1.size < 4294967281 := by
        cases hf : (ruleA l p k).2
        · rw [ruleA_none l p k hk hf]; decide
        · exact hz _ (ruleA_mem l p k hk hf)
      have hCC := hide fun (W : World) (hB : Below w.heap.size w W) => compareGlob_c l[k].1 (ruleA l p k).1.1 W (hg.up hB) hzk hbest
      generalize ruleA l p k = st at HT HK HTK hCC hbest hb2 ⊢
      obtain ⟨⟨g0, x0⟩, fd⟩ := st
      cases hcv : coversB l[k].1 p
      · have HN := hide (HK.out (by rw [HTK.out, hcv]; rfl))
        rw [hcv] at hCV
        clear hcv HT HK HTK hb
        go_wp2_with fail
        refine (hCV.out _ (HB.out.alloc (by omega) _)).mono ?_
        rintro e w3 ⟨rfl, hb3⟩
        have hB3 := then_ (HB.out.alloc (by omega) (.cells #[.string l[k].1, .int .i64 l[k].2] 53)) hb3 (by simp; omega)
        obtain ⟨n1, _, _, _⟩ := (hb1.alloc _).step hb3
        obtain ⟨n2, _, _, _⟩ := (hb2.alloc _).step hb3
        clear hb1 hb2 hb3 hc0 hc1
        go_wp2_with fail
        refine ⟨⟨k + 1, by omega, by go_num, ?_, hB3, n1, ?_⟩, by simp [intOf]; omega⟩
        · rw [HN.out]
        · rw [HN.out]; exact n2
      cases fd
      · have HN := hide (HT.out (by rw [HTK.out, hcv]; rfl))
        rw [hcv] at hCV
        clear hcv HT HK HTK hb
        go_wp2_with fail
        refine (hCV.out _ (HB.out.alloc (by omega) _)).mono ?_
        rintro e w3 ⟨rfl, hb3⟩
        have hB3 := then_ (HB.out.alloc (by omega) (.cells #[.string l[k].1, .int .i64 l[k].2] 53)) hb3 (by simp; omega)
        obtain ⟨n1, _, _, _⟩ := (hb1.alloc _).step hb3
        obtain ⟨n2, q2, f2, _⟩ := (hb2.alloc _).step hb3
        obtain ⟨n3, q3, f3, _⟩ := (Blk.new wr 53 #[.string l[k].1, .int .i64 l[k].2]).step hb3
        have N1 := hide n1
        have N2 := hide n2
        have HB3 := hide hB3
        have hr3 : wr.heap.size ≠ w.heap.size + 1 + 1 := by omega
        clear hb1 hb2 hb3 hc0 hc1 n1 n2 n3 hB3
        go_wp2_with fail
        refine ⟨⟨k + 1, by omega, by go_num, ?_, (HB3.out.setCell (by simp; omega) _).setCell (by simp; omega) _, (N1.out.far (by simp) _).far (by simp) _, ?_⟩, by simp [intOf]; omega⟩
        · rw [HN.out]
        · rw [HN.out]; exact N2.out.set2
      · cases hcc : decide (0 < cmpA l[k].1 g0)
        · have HN := hide (HK.out (by rw [HTK.out, hcv, hcc]; rfl))
          have hcn : ¬ 0 < cmpA l[k].1 g0 := of_decide_eq_false hcc
          rw [hcv] at hCV
          clear hcv hcc HT HK HTK hb
          generalize cmpA l[k].1 g0 = X at hCC hcn
          go_wp2_with fail
          refine (hCV.out _ (HB.out.alloc (by omega) _)).mono ?_
          rintro e w3 ⟨rfl, hb3⟩
          have hB3 := then_ (HB.out.alloc (by omega) (.cells #[.string l[k].1, .int .i64 l[k].2] 53)) hb3 (by simp; omega)
          obtain ⟨n1, _, _, _⟩ := (hb1.alloc _).step hb3
          obtain ⟨n2, q2, f2, _⟩ := (hb2.alloc _).step hb3
          obtain ⟨n3, q3, f3, _⟩ := (Blk.new wr 53 #[.string l[k].1, .int .i64 l[k].2]).step hb3
          clear hb1 hb2 hb3 hc0 hc1 n3
          go_wp2_with fail
          refine (hCC.out _ hB3).mono ?_
          rintro e w4 ⟨rfl, hb4⟩
          have hB4 := then_ hB3 hb4 hB3.size
          obtain ⟨m1, _, _, _⟩ := n1.step hb4
          obtain ⟨m2, _, _, _⟩ := n2.step hb4
          clear n1 n2 hb4 q2 f2 q3 f3
          go_wp2_with fail
          refine ⟨⟨k + 1, by omega, by go_num, ?_, hB4, m1, ?_⟩, by simp [intOf]; omega⟩
          · rw [HN.out]
          · rw [HN.out]; exact m2
        · have HN := hide (HT.out (by rw [HTK.out, hcv, hcc]; rfl))
          have hcn : 0 < cmpA l[k].1 g0 := of_decide_eq_true hcc
          rw [hcv] at hCV
          clear hcv hcc HT HK HTK hb
          generalize cmpA l[k].1 g0 = X at hCC hcn
          go_wp2_with fail
          refine (hCV.out _ (HB.out.alloc (by omega) _)).mono ?_
          rintro e w3 ⟨rfl, hb3⟩
          have hB3 := then_ (HB.out.alloc (by omega) (.cells #[.string l[k].1, .int .i64 l[k].2] 53)) hb3 (by simp; omega)
          obtain ⟨n1, _, _, _⟩ := (hb1.alloc _).step hb3
          obtain ⟨n2, q2, f2, _⟩ := (hb2.alloc _).step hb3
          obtain ⟨n3, q3, f3, _⟩ := (Blk.new wr 53 #[.string l[k].1, .int .i64 l[k].2]).step hb3
          clear hb1 hb2 hb3 hc0 hc1
          go_wp2_with fail
          refine (hCC.out _ hB3).mono ?_
          rintro e w4 ⟨rfl, hb4⟩
          have hB4 := then_ hB3 hb4 hB3.size
          obtain ⟨m1, _, _, _⟩ := n1.step hb4
          obtain ⟨m2, q4, f4, _⟩ := n2.step hb4
          obtain ⟨m3, q5, f5, _⟩ := n3.step hb4
          have N1 := hide m1
          have N2 := hide m2
          have HB4 := hide hB4
          have hr3 : wr.heap.size ≠ w.heap.size + 1 + 1 := by omega
          clear n1 n2 n3 hb4 q2 f2 q3 f3 m1 m2 m3 hB3 hB4
          go_wp2_with fail
          refine ⟨⟨k + 1, by omega, by go_num, ?_, (HB4.out.setCell (by simp; omega) _).setCell (by simp; omega) _, (N1.out.far (by simp) _).far (by simp) _, ?_⟩, by simp [intOf]; omega⟩
          · rw [HN.out]
          · rw [HN.out]; exact N2.out.set2
    · obtain rfl : k = l.length := by omega
      generalize hst : ruleA l p l.length = st at hb2 ⊢
      have HST := hide hst
      clear hst
      obtain ⟨⟨g0, x0⟩, fd⟩ := st
      have q1 := hb1.cell
      have f1 := hb1.frozen
      have q2 := hb2.cell
      have f2 := hb2.frozen
      clear hb hb1 hb2
      go_wp2_with fail
      refine bodyPost_ret (v := .tuple #[.agg #[.string g0, .int .i64 x0], .bool fd]) (by simp [results, Tryd.results56, go_sem, q1]) rfl ?_
      rw [HST.out]
      exact ⟨rfl, (HB.out.setCell (by simp) _).setCell (by simp) _⟩
end Go.Proofs.YtmjmjloiblbhcaaDoor
