/- The program's GiveShare, where the share is not refused at once. -/
import Derived.Test.YtgkjgaijjihmgaaA38
import Derived.Deep.DeepCutAuto
import Derived.Deep.RegionHeld3
import Derived.Deep.AppendLies
namespace Go.Proofs.Ytgkjgaijjihmgaa
open Go.RowKit Gf
set_option maxRecDepth 100000
set_option maxHeartbeats 400000
theorem ShR_one {W : World} {b e : Nat} {x : Int} {D : Option Addr} {m cd : Nat} {d : List UInt8} (h : Blk W b e #[.int .i64 x, .slice D m cd]) (hd : Rd W W.heap.size 1 D m (bC d)) : ShR W W.heap.size (some ⟨b, 0, none⟩) 1 [(x, d)] := by
  have hm := hd.bn
  subst hm
  refine ⟨rfl, by omega, fun _ => ⟨b, 0, rfl, h.lt, fun k hk => ?_⟩⟩
  have : k = 0 := by simp at hk; omega
  subst this
  exact ⟨D, cd, h.cell 0, h.cell 1, hd⟩
/-- append of a row of one element at a step of a region that draws -/
theorem step_appS {P : Program} {ops : Array Oper} {o : Oper} {a : Act} {K : Act → World → Prop} {Q : Exit → Act → World → Prop} {E : Prop} (w : World) (hgd : o.guard = none) (s x : Operand) (t : TypeId)
    (ho : o.op = .call { callee := .builtin .append, args := #[s, x], argTypes := #[t, t] })
    (base e : Nat) (z : Value) (size bytes : Nat) (ht : P.underlying t = some (.slice e)) (hinfo : (P.info? e).map (fun i => (i.zero, i.size, i.bytes)) = some (some z, size, bytes)) (hzs : z.cells.size = size) (hsz : 0 < size)
    (A : Option Addr) (n c : Nat) (xs news : List Value) (hs : a.eval s = .slice A n c) (hown : w.ownsRow base e size (.slice A n c) n xs)
    (lo2 c2 : Nat) (A2 : Option Addr) (hx : a.eval x = .slice A2 1 c2) (hown2 : w.ownsRow lo2 e size (.slice A2 1 c2) 1 news) (h1 : ∀ u ∈ news, u.oneCell' = true)
    (h63 : n + 1 ≤ 9223372036854775807) (hbytes : (n + 1) * bytes ≤ 140737488355328) (hbase : base ≤ w.heap.size)
    (h : ∀ A' c' w', n + 1 ≤ c' → w'.ownsRow base e size (.slice A' (n + 1) c') (n + 1) (xs ++ news) → w.grownBy w' (Value.slice A n c).ownBlock → K (a.put o.dst (.slice A' (n + 1) c')) w') :
    if Region.wanted o (yielded ops a.tmps) = true then Oper.wp P o a w K Q else E := by
  obtain ⟨i, hi, hz, hsize, hby⟩ := info_parts hinfo
  have hr := own_rd hown2
  obtain ⟨b, off, rfl, hb, hc⟩ := hr.2.2 (by omega)
  refine step_append_lies w hgd s x t ho base e i z size bytes ht hi hz hsize hby hzs hsz (.slice A n c) n xs hs hown ⟨b, off, none⟩ 1 c2 news hx (by have := hr.1; omega) ?_ h1 (by omega) (by simp only [maxLen]; omega) hbytes hbase _ rfl ?_
  · intro j u hu
    have hadd : (⟨b, off, none⟩ : Addr).add j = ⟨b, off + j, none⟩ := by unfold Addr.add; split <;> simp_all
    rw [hadd]
    exact hc j u hu
  intro g cap w' hown' hg hat hlt
  have hcc : n + 1 ≤ cap := by
    obtain ⟨_, _, hv, hnc⟩ := own_slice hown'
    injection hv with _ _ h3
    omega
  exact h _ _ _ hcc hown' hg
/-- behind the append: the shares with the new one -/
def GivAt (w0 W : World) (ss : List Sh) (x : Int) (d : List UInt8) (v : Value) (wx : World) : Prop :=
  ∃ A9 c9 hs9, v = .slice A9 (ss.length + 1) c9 ∧ ss.length + 1 ≤ c9 ∧ ShO wx (w0.heap.size + 3) 31 A9 (ss.length + 1) c9 hs9 (ss ++ [(x, d)]) ∧ Below (w0.heap.size + 3) W wx
theorem give_alike {ss : List Sh} {x : Int} {d : List UInt8} (hal : alikeB ss = true) (hsh : shOk x d.length = true) (hl : ¬ (0 < ss.length ∧ lenS ss ≠ d.length)) (hd : gvDup ss x = false) : alikeB (ss ++ [(x, d)]) = true := by
  have hO := ok_of_alike hal
  have hne : ∀ j (hj : j < ss.length), ss[j].1 ≠ x := fun j hj e => by
    have := List.any_eq_false.1 hd ss[j] (List.getElem_mem hj)
    exact this (by simp [e])
  have hlen : ∀ j (hj : j < (ss ++ [(x, d)]).length), ((ss ++ [(x, d)])[j]).2.length = d.length := fun j hj => by
    by_cases hlt : j < ss.length
    · rw [List.getElem_append_left hlt, hO.l j hlt]
      exact Classical.byContradiction fun h => hl ⟨by omega, h⟩
    · rw [List.getElem_append_right (by omega)]
      simp
  have hsh1 := hsh
  unfold shOk at hsh1
  rw [Bool.and_eq_true] at hsh1
  refine alike_true fun k hk => ⟨?_, dup_false hk fun j hj e => ?_⟩
  · rw [good_eq hk, hlen k hk, hlen 0 (by omega)]
    have : shOk ((ss ++ [(x, d)])[k]).1 d.length = true := by
      unfold shOk
      rw [hsh1.2, Bool.and_true]
      by_cases hlt : k < ss.length
      · rw [List.getElem_append_left hlt]
        exact inB_true.2 (hO.x k hlt)
      · rw [List.getElem_append_right (by omega)]
        simpa using hsh1.1
    rw [this]
    simp
  · have hj' : j < (ss ++ [(x, d)]).length := by omega
    by_cases hlt : k < ss.length
    · rw [List.getElem_append_left hlt, List.getElem_append_left (by omega)] at e
      have := hO.d j k (by omega) hlt e
      omega
    · have hk2 : k = ss.length := by simp at hk; omega
      subst hk2
      rw [List.getElem_append_left hj, List.getElem_append_right (by omega)] at e
      simp at e
      exact hne j hj e
theorem GiveShare_io (need sum : Int) (A : Option Addr) (n c : Nat) (ss : List Sh) (x : Int) (D : Option Addr) (m cd : Nat) (d : List UInt8) (w : World) (hr : ShR w w.heap.size A n ss) (hd : Rd w w.heap.size 1 D m (bC d)) (hnc : n ≤ c) (hn : n ≤ 1048576) (hm : m ≤ 1048576) (hdl : ∀ k (h : k < ss.length), ss[k].2.length ≤ 1048576) (hbd : gvBad need ss x d = false) :
    Calls Try.prog 17 #[.agg #[.int .i64 need, .int .i64 sum, .slice A n c], .agg #[.int .i64 x, .slice D m cd]] w (RetGive need sum (gvSh need sum ss x d) (gvCode need sum ss x d) (gvOut need sum ss x d) w) := by
  go_enter Try.func17, Try.ntmps17
  go_upto_region 1 with fail
  have L := ((Blk.new w 39 #[.int .i64 need, .int .i64 sum, .slice A n c]).alloc (.cells #[.int .i64 x, .slice D m cd] 31)).alloc (.cells #[.int .i64 0, .int .i64 0, .slice none 0 0] 39)
  have T := (Blk.new1 w (.cells #[.int .i64 need, .int .i64 sum, .slice A n c] 39) 31 #[.int .i64 x, .slice D m cd]).alloc (.cells #[.int .i64 0, .int .i64 0, .slice none 0 0] 39)
  have M := Blk.new2 w (.cells #[.int .i64 need, .int .i64 sum, .slice A n c] 39) (.cells #[.int .i64 x, .slice D m cd] 31) 39 #[.int .i64 0, .int .i64 0, .slice none 0 0]
  have hB : Below w.heap.size w (((w.alloc (.cells #[.int .i64 need, .int .i64 sum, .slice A n c] 39)).alloc (.cells #[.int .i64 x, .slice D m cd] 31)).alloc (.cells #[.int .i64 0, .int .i64 0, .slice none 0 0] 39)) := (by repeat (first | with_reducible exact Below.refl _ _ | with_reducible assumption | refine Below.alloc ?_ (by first | omega | (simp; done) | (simp; omega)) _ | refine Below.setCell ?_ (by first | omega | (simp; done) | (simp; omega)) _ | refine Below.drew ?_ | refine below_drewN ?_ _ | exact Below.refl _ _ | assumption))
  have hz0 : (((w.alloc (.cells #[.int .i64 need, .int .i64 sum, .slice A n c] 39)).alloc (.cells #[.int .i64 x, .slice D m cd] 31)).alloc (.cells #[.int .i64 0, .int .i64 0, .slice none 0 0] 39)).heap.size = w.heap.size + 3 := by simp
  generalize ((w.alloc (.cells #[.int .i64 need, .int .i64 sum, .slice A n c] 39)).alloc (.cells #[.int .i64 x, .slice D m cd] 31)).alloc (.cells #[.int .i64 0, .int .i64 0, .slice none 0 0] 39) = w0 at L T M hB hz0 ⊢
  go_cut [7] (fun p wx => SealAt w need sum A n c ss x D m cd p wx)
  case first =>
    have q0 := L.cell 0
    have q1 := L.cell 1
    have q2 := L.cell 2
    have HB := hide hB
    have HL := hide L
    have HT := hide T
    have HM := hide M
    have HR := hide (hr.up hB)
    have HDL := hide hdl
    clear hr hd L T M hB hdl
    go_region_held3 (fun w' => w'.cell? ⟨w.heap.size, 0, none⟩ = some (.int .i64 need) ∧ w'.cell? ⟨w.heap.size, 1, none⟩ = some (.int .i64 sum) ∧ w'.cell? ⟨w.heap.size, 2, none⟩ = some (.slice A n c)) (exact ⟨cell_old (B := w0.heap.size) q0 (by repeat (first | with_reducible exact Below.refl _ _ | with_reducible assumption | refine Below.alloc ?_ (by first | omega | (simp; done) | (simp; omega)) _ | refine Below.setCell ?_ (by first | omega | (simp; done) | (simp; omega)) _ | refine Below.drew ?_ | refine below_drewN ?_ _ | exact Below.refl _ _ | assumption)) (by first | omega | (simp; done) | (simp; omega)), cell_old (B := w0.heap.size) q1 (by repeat (first | with_reducible exact Below.refl _ _ | with_reducible assumption | refine Below.alloc ?_ (by first | omega | (simp; done) | (simp; omega)) _ | refine Below.setCell ?_ (by first | omega | (simp; done) | (simp; omega)) _ | refine Below.drew ?_ | refine below_drewN ?_ _ | exact Below.refl _ _ | assumption)) (by first | omega | (simp; done) | (simp; omega)), cell_old (B := w0.heap.size) q2 (by repeat (first | with_reducible exact Below.refl _ _ | with_reducible assumption | refine Below.alloc ?_ (by first | omega | (simp; done) | (simp; omega)) _ | refine Below.setCell ?_ (by first | omega | (simp; done) | (simp; omega)) _ | refine Below.drew ?_ | refine below_drewN ?_ _ | exact Below.refl _ _ | assumption)) (by first | omega | (simp; done) | (simp; omega))⟩) (first | (go_at_call 51; refine (cloneShares_c A n c ss _ (HR.out.up (by repeat (first | with_reducible exact Below.refl _ _ | with_reducible assumption | refine Below.alloc ?_ (by first | omega | (simp; done) | (simp; omega)) _ | refine Below.setCell ?_ (by first | omega | (simp; done) | (simp; omega)) _ | refine Below.drew ?_ | refine below_drewN ?_ _ | exact Below.refl _ _ | assumption))) hn HDL.out).mono ?_; rintro e w1 ⟨A1, c1, hs, rfl, hc1, ho1, hb1⟩; have hT := then_ (w0 := w0) (B := w0.heap.size) (by repeat (first | with_reducible exact Below.refl _ _ | with_reducible assumption | refine Below.alloc ?_ (by first | omega | (simp; done) | (simp; omega)) _ | refine Below.setCell ?_ (by first | omega | (simp; done) | (simp; omega)) _ | refine Below.drew ?_ | refine below_drewN ?_ _ | exact Below.refl _ _ | assumption)) hb1 (by first | omega | (simp; done) | (simp; omega)); have hs1 := hT.size; have hM1 := fun (g t : Nat) (cs : Array Value) (h : Blk _ g t cs) => Blk.step1 hb1 h; obtain ⟨hcl, hfr⟩ := bcell hb1) | fail)
    all_goals
      go_wp2_with fail
      go_meet
    case rel =>
      clear hfr hcl
      have hB' := HB.out
      refine ⟨_, A1, c1, hs, rfl, ?_, ?_, hc1, ?_, ?_, ?_, ?_, ?_⟩
      · first | omega | (simp; done) | (simp; omega)
      · first | exact Blk.new _ _ _ | exact (Blk.new _ _ _).drew
      · exact (ho1.below ((Below.refl _ _).alloc (Nat.le_refl _) _)).mono (by first | omega | (simp; done) | (simp; omega))
      · exact HB.out.trans (Below.mono (B := w0.heap.size) (by repeat (first | with_reducible exact Below.refl _ _ | with_reducible assumption | refine Below.alloc ?_ (by first | omega | (simp; done) | (simp; omega)) _ | refine Below.setCell ?_ (by first | omega | (simp; done) | (simp; omega)) _ | refine Below.drew ?_ | refine below_drewN ?_ _ | exact Below.refl _ _ | assumption)) (by first | omega | (simp; done) | (simp; omega)))
      · exact HL.out.below (B := w0.heap.size) (by repeat (first | with_reducible exact Below.refl _ _ | with_reducible assumption | refine Below.alloc ?_ (by first | omega | (simp; done) | (simp; omega)) _ | refine Below.setCell ?_ (by first | omega | (simp; done) | (simp; omega)) _ | refine Below.drew ?_ | refine below_drewN ?_ _ | exact Below.refl _ _ | assumption)) (by first | omega | (simp; done) | (simp; omega))
      · exact HT.out.below (B := w0.heap.size) (by repeat (first | with_reducible exact Below.refl _ _ | with_reducible assumption | refine Below.alloc ?_ (by first | omega | (simp; done) | (simp; omega)) _ | refine Below.setCell ?_ (by first | omega | (simp; done) | (simp; omega)) _ | refine Below.drew ?_ | refine below_drewN ?_ _ | exact Below.refl _ _ | assumption)) (by first | omega | (simp; done) | (simp; omega))
      · exact HM.out.below (B := w0.heap.size) (by repeat (first | with_reducible exact Below.refl _ _ | with_reducible assumption | refine Below.alloc ?_ (by first | omega | (simp; done) | (simp; omega)) _ | refine Below.setCell ?_ (by first | omega | (simp; done) | (simp; omega)) _ | refine Below.drew ?_ | refine below_drewN ?_ _ | exact Below.refl _ _ | assumption)) (by first | omega | (simp; done) | (simp; omega))
    case rel =>
      clear hfr hcl
      have hB' := HB.out
      refine ⟨_, A1, c1, hs, rfl, ?_, ?_, hc1, ?_, ?_, ?_, ?_, ?_⟩
      · first | omega | (simp; done) | (simp; omega)
      · exact Blk.set (Blk.set (Blk.set (hM1 (w.heap.size + 3) 39 #[.int .i64 0, .int .i64 0, .slice none 0 0] (by rw [← hz0]; exact Blk.new w0 39 _)) _ _) _ _) _ _
      · refine ShO.mono (lo := (w0.alloc (Obj.cells #[Value.int IntKind.i64 0, Value.int IntKind.i64 0, Value.slice none 0 0] 39)).drew.heap.size) ?_ (by first | omega | (simp; done) | (simp; omega)); refine ShO.far ?_ (by first | omega | (simp; done) | (simp; omega)) _; refine ShO.far ?_ (by first | omega | (simp; done) | (simp; omega)) _; refine ShO.far ?_ (by first | omega | (simp; done) | (simp; omega)) _; exact ho1
      · exact HB.out.trans (Below.mono (B := w0.heap.size) (by repeat (first | with_reducible exact Below.refl _ _ | with_reducible assumption | refine Below.alloc ?_ (by first | omega | (simp; done) | (simp; omega)) _ | refine Below.setCell ?_ (by first | omega | (simp; done) | (simp; omega)) _ | refine Below.drew ?_ | refine below_drewN ?_ _ | exact Below.refl _ _ | assumption)) (by first | omega | (simp; done) | (simp; omega)))
      · exact HL.out.below (B := w0.heap.size) (by repeat (first | with_reducible exact Below.refl _ _ | with_reducible assumption | refine Below.alloc ?_ (by first | omega | (simp; done) | (simp; omega)) _ | refine Below.setCell ?_ (by first | omega | (simp; done) | (simp; omega)) _ | refine Below.drew ?_ | refine below_drewN ?_ _ | exact Below.refl _ _ | assumption)) (by first | omega | (simp; done) | (simp; omega))
      · exact HT.out.below (B := w0.heap.size) (by repeat (first | with_reducible exact Below.refl _ _ | with_reducible assumption | refine Below.alloc ?_ (by first | omega | (simp; done) | (simp; omega)) _ | refine Below.setCell ?_ (by first | omega | (simp; done) | (simp; omega)) _ | refine Below.drew ?_ | refine below_drewN ?_ _ | exact Below.refl _ _ | assumption)) (by first | omega | (simp; done) | (simp; omega))
      · exact HM.out.below (B := w0.heap.size) (by repeat (first | with_reducible exact Below.refl _ _ | with_reducible assumption | refine Below.alloc ?_ (by first | omega | (simp; done) | (simp; omega)) _ | refine Below.setCell ?_ (by first | omega | (simp; done) | (simp; omega)) _ | refine Below.drew ?_ | refine below_drewN ?_ _ | exact Below.refl _ _ | assumption)) (by first | omega | (simp; done) | (simp; omega))
  case rest =>
    obtain ⟨g, A1, c1, hs, rfl, hg, hG, hc1, hO, hB1, hL1, hT1, hM1⟩ := hcut
    have hz1 := hB1.size
    have hz1' := hG.lt
    clear L T M hB hz0
    have hln := hr.1
    have hlm := hd.bn
    have HR := hide hr
    have HD := hide hd
    have hbm := hd.bd
    have qL := fun (j : Nat) (v : Value) (h : wc.cell? ⟨w.heap.size, j, none⟩ = some v) (y : After wc.heap.size wc) => y.cell h hL1.lt
    have l0 := qL 0 _ (hL1.cell 0)
    have l1 := qL 1 _ (hL1.cell 1)
    have l2 := qL 2 _ (hL1.cell 2)
    have qT := fun (j : Nat) (v : Value) (h : wc.cell? ⟨w.heap.size + 1, j, none⟩ = some v) (y : After wc.heap.size wc) => y.cell h hT1.lt
    have t0 := qT 0 _ (hT1.cell 0)
    have t1 := qT 1 _ (hT1.cell 1)
    have HRW := hide (hr.up hB1)
    clear qL qT hr hd
    have h12 : slOk need ss = true ∧ shOk x m = true ∧ ¬ (0 < n ∧ lenS ss ≠ m) := by
      unfold gvBad at hbd
      rw [hln, hlm] at hbd
      simp only [Bool.or_eq_false_iff, Bool.not_eq_false', Bool.and_eq_false_iff, decide_eq_false_iff_not] at hbd
      refine ⟨hbd.1.1, hbd.1.2, fun h => ?_⟩
      rcases hbd.2 with h4 | h4
      · exact h4 h.1
      · exact h4 h.2
    obtain ⟨h1, h2, h3⟩ := h12
    have HS : Hid (∀ W, ShR W W.heap.size A n ss → Calls Try.prog 52 #[.agg #[.int .i64 need, .int .i64 sum, .slice A n c]] W (RetV (.bool true) W)) := fun W hW => by
      have h := isSeal_c need sum A n c ss W hW hnc
      rw [h1] at h
      exact h
    have HT : Hid (∀ W, Calls Try.prog 53 #[.agg #[.int .i64 x, .slice D m cd]] W (RetV (.bool true) W)) := fun W => by
      have h := isShare_c x D m cd W hbm
      rw [h2] at h
      exact h
    have HL1 := hide hL1
    have HT1 := hide hT1
    have HM1 := hide hM1
    have HG := hide hG
    have HO := hide hO
    have hB1' := hB1
    clear hM1 hG hO
    go_upto_region 2 with fail
    go_cut [43] (fun v wx => v = .bool false ∧ Below wc.heap.size wc wx)
    case first =>
      clear HL1 HT1 HM1 HG HO hbd h1 h2
      have hcs : n = 0 ∨ (0 < n ∧ lenS ss = m) := by
        by_cases h4 : lenS ss = m
        · rcases Nat.eq_zero_or_pos n with h5 | h5
          · exact .inl h5
          · exact .inr ⟨h5, h4⟩
        · rcases Nat.eq_zero_or_pos n with h5 | h5
          · exact .inl h5
          · exact absurd ⟨h5, h4⟩ h3
      rcases hcs with h4 | ⟨h4, h5⟩
      · subst h4
        clear h3 hln hdl HR HD hbm hlm
        refine wp_region_after wc.heap.size (by kernel_rfl) (by kernel_rfl) ?_
        repeat (go_big_quiet_step ((first | (go_at_call 52; exact after_of (Nat.le_refl _) (HS.out _ (After.shr _ HRW.out (Nat.le_refl _) (Nat.le_refl _)))) | (go_at_call 53; exact after_of (Nat.le_refl _) (HT.out _)))))
        refine wpQuiet_nil ?_
        rintro w2 ⟨x_w2, e_w2⟩
        have hb2 := x_w2.below
        rw [← e_w2] at hb2
        clear e_w2 x_w2
        go_wp2_with fail
        go_meet
        exact ⟨rfl, hb2⟩
      · obtain ⟨b, off, hA, hblt, hl0, A0, c0, _, hd0, _⟩ := HR.out.at_ (k := 0) h4
        subst hA
        simp only [Nat.zero_mul, Nat.add_zero] at hd0
        have hle : lenS ss = ss[0].2.length := by
          cases ss with
          | nil => simp at hl0
          | cons s ss => rfl
        have d1 := cell_old hd0 hB1 hblt
        have s1 := fun (y : After wc.heap.size wc) => y.cell d1 (by omega)
        have hn0 : decide ((0 : Int) < (n : Int)) = true := by simp; omega
        have hne : (((ss[0].2.length : Nat) : Int) != (m : Int)) = false := by rw [← hle, h5]; simp
        refine wp_region_after wc.heap.size (by kernel_rfl) (by kernel_rfl) ?_
        repeat (go_big_quiet_step ((first | (go_at_call 52; exact after_of (Nat.le_refl _) (HS.out _ (After.shr _ HRW.out (Nat.le_refl _) (Nat.le_refl _)))) | (go_at_call 53; exact after_of (Nat.le_refl _) (HT.out _)))))
        refine wpQuiet_nil ?_
        rintro w2 ⟨x_w2, e_w2⟩
        have hb2 := x_w2.below
        rw [← e_w2] at hb2
        clear e_w2 x_w2
        go_wp2_with fail
        go_meet
        exact ⟨rfl, hb2⟩
    case rest =>
      obtain ⟨rfl, hb2⟩ := hcut
      have HL := hide (HL1.out.below hb2 HL1.out.lt)
      have HS2 := hide (HT1.out.below hb2 HT1.out.lt)
      have HM2 : Hid (Blk wc (w.heap.size + 1 + 1) 39 #[.int .i64 0, .int .i64 0, .slice none 0 0]) := HM1.out.below hb2 HM1.out.lt
      have HG2 := hide (HG.out.below hb2 HG.out.lt)
      have HO2 := hide (ShO.below HO.out hb2)
      have HRW2 := hide (HRW.out.up hb2)
      have HDW := hide ((HD.out.up hB1').up hb2)
      have HB2 := hide (then_ hB1' hb2 hz1)
      have hz2 := Nat.le_trans hz1 hb2.size
      have hz3 := HM2.out.lt
      have hzg := HG2.out.lt
      have HDL := hide hdl
      have HS3 := hide h1
      have HT3 := hide h2
      have H3 := hide h3
      have HBD := hide hbd
      have HLN := hide hln
      have HLM := hide hlm
      clear l0 l1 l2 t0 t1 HS HT HL1 HT1 HM1 HG HO HRW HR HD hB1' hB1 hL1 hT1 hb2 h1 h2 h3 hdl hbd hln hlm hz1' hz1
      have t0 := HS2.out.cell 0
      have l2 := HL.out.cell 2
      have hlS := HS2.out.lt
      have HC : Hid (Calls Try.prog 54 #[.slice A n c, .func (.func 55) #[] #[.pointer (some ⟨w.heap.size + 1, 0, none⟩)]] wc (RetV (.bool (gvDup ss x)) wc)) := containsFuncS144_c A n c (some ⟨w.heap.size + 1, 0, none⟩) x ss wc HRW2.out (fun x' A n c W hW => give1_c x' A n c (w.heap.size + 1) x W (cell_old t0 hW hlS) (Nat.lt_of_lt_of_le hlS hW.size))
      clear t0
      go_wp2_with fail
      refine HC.out.mono ?_
      rintro e w3 ⟨rfl, hb3⟩
      have HL := hide (HL.out.below hb3 HL.out.lt)
      have HS2 := hide (HS2.out.below hb3 HS2.out.lt)
      have HM2 := hide (HM2.out.below hb3 HM2.out.lt)
      have HG2 := hide (HG2.out.below hb3 HG2.out.lt)
      have HO2 := hide (ShO.below HO2.out hb3)
      have HDW := hide (HDW.out.up hb3)
      have HB2 := hide (then_ HB2.out hb3 HB2.out.size)
      have hlM := HM2.out.lt
      have hz4 : w.heap.size + 3 ≤ w3.heap.size := by omega
      have hlG := HG2.out.lt
      clear HC hb3 HRW2 l2 hlS hz2 hz3 hzg
      cases hdp : gvDup ss x
      case true =>
        have HDP := hide hdp
        have g0 := HG2.out.cell
        have qM := HM2.out.cell
        have fM := HM2.out.frozen
        clear hdp
        go_wp2_with fail
        have hcode : gvCode need sum ss x d = 3 := by
          unfold gvCode
          rw [if_neg (by rw [HBD.out]; decide), if_pos HDP.out]
        have hsh : gvSh need sum ss x d = ss := by unfold gvSh; rw [if_pos (.inr hcode)]
        have hout : gvOut need sum ss x d = [] := by unfold gvOut; rw [hcode]; rfl
        have hnl : n = ss.length := HLN.out.symm
        refine bodyPost_ret (v := .tuple #[.agg #[.int .i64 need, .int .i64 sum, .slice A1 n c1], .int .i64 3, .slice none 0 0]) (by simp [results, Try.results17, go_sem, qM]) rfl ?_
        show RetGive _ _ _ _ _ _ _ _
        rw [hcode, hsh, hout, hnl]
        exact give_out HB2.out (by omega) (by omega) (Nat.le_refl _) (by rw [← hnl]; exact HO2.out) (World.ownsRow_nil _ _ _ _)
      case false =>
        have HDP := hide hdp
        clear hdp
        go_upto_region 6 with fail
        go_cut [8] (fun v wx => GivAt w w3 ss x d v wx)
        case first =>
          obtain rfl : d.length = m := HLM.out
          have hl9 : ss.length + 1 = n + 1 := by rw [HLN.out]
          have hdl1 : ∀ k (h : k < [(x, d)].length), ([(x, d)] : List Sh)[k].2.length ≤ 1048576 := fun k hk => by
            have : k = 0 := by simp at hk; omega
            subst this; exact hm
          have q2 : w3.cell? ⟨g, 2, none⟩ = some (.slice A1 n c1) := HG2.out.cell 2
          have q0 : w3.cell? ⟨w.heap.size + 1, 0, none⟩ = some (.int .i64 x) := HS2.out.cell 0
          have q1 : w3.cell? ⟨w.heap.size + 1, 1, none⟩ = some (.slice D d.length cd) := HS2.out.cell 1
          have hlS := HS2.out.lt
          have HNG := hide (fun a (ha : A1 = some a) => show a.block ≠ g from fun e => by
            have h := HO2.out.row
            subst ha
            obtain ⟨cur, hc, _⟩ := own_type h
            exact apart_type hc HG2.out (by decide) e)
          have HNS := hide (fun a (ha : A1 = some a) => show a.block ≠ w.heap.size + 1 from fun e => by
            have h := HO2.out.row
            subst ha
            obtain ⟨cur, hc, hb⟩ := own_type h
            omega)
          have HW : Hid (ShR ((w3.alloc (.cells #[.int .i64 x, .slice D d.length cd] 31)).drew) ((w3.alloc (.cells #[.int .i64 x, .slice D d.length cd] 31)).drew).heap.size (some ⟨w3.heap.size, 0, none⟩) 1 [(x, d)]) := ShR_one ((Blk.new w3 _ _).drew) (HDW.out.up (by repeat (first | with_reducible exact Below.refl _ _ | with_reducible assumption | refine Below.alloc ?_ (by first | omega | (simp; done) | (simp; omega)) _ | refine Below.setCell ?_ (by first | omega | (simp; done) | (simp; omega)) _ | refine Below.drew ?_ | refine below_drewN ?_ _ | exact Below.refl _ _ | assumption)))
          go_region_held3 (fun w' => w'.cell? ⟨g, 2, none⟩ = some (.slice A1 n c1) ∧ w'.cell? ⟨w.heap.size + 1, 0, none⟩ = some (.int .i64 x) ∧ w'.cell? ⟨w.heap.size + 1, 1, none⟩ = some (.slice D d.length cd)) (first | exact ⟨r2, r0, r1⟩ | exact ⟨cell_old (B := w3.heap.size) q2 (by repeat (first | with_reducible exact Below.refl _ _ | with_reducible assumption | refine Below.alloc ?_ (by first | omega | (simp; done) | (simp; omega)) _ | refine Below.setCell ?_ (by first | omega | (simp; done) | (simp; omega)) _ | refine Below.drew ?_ | refine below_drewN ?_ _ | exact Below.refl _ _ | assumption)) hlG, cell_old (B := w3.heap.size) q0 (by repeat (first | with_reducible exact Below.refl _ _ | with_reducible assumption | refine Below.alloc ?_ (by first | omega | (simp; done) | (simp; omega)) _ | refine Below.setCell ?_ (by first | omega | (simp; done) | (simp; omega)) _ | refine Below.drew ?_ | refine below_drewN ?_ _ | exact Below.refl _ _ | assumption)) hlS, cell_old (B := w3.heap.size) q1 (by repeat (first | with_reducible exact Below.refl _ _ | with_reducible assumption | refine Below.alloc ?_ (by first | omega | (simp; done) | (simp; omega)) _ | refine Below.setCell ?_ (by first | omega | (simp; done) | (simp; omega)) _ | refine Below.drew ?_ | refine below_drewN ?_ _ | exact Below.refl _ _ | assumption)) hlS⟩) (first | (refine step_appS w4 (by rfl) (.tmp 51) (.tmp 54) 26 (by rfl) (w.heap.size + 3) 31 (.agg #[.int .i64 0, .slice none 0 0]) 2 32 Try.underlying26 info40 rfl (by omega) A1 n c1 _ [.int .i64 x, .slice pA d.length pc] (by rfl) HOS.out.row _ c4 A4 (by rfl) HO4.out.row (by simp [Value.oneCell']) (by omega) (by omega) (by omega) ?_; intro A5 c5 w5 hc5 ho5 hg5; have r2 := (far_cell hg5 g 2 (by omega) HNG.out).trans p2; have r0 := (far_cell hg5 (w.heap.size + 1) 0 (by omega) HNS.out).trans p0; have r1 := (far_cell hg5 (w.heap.size + 1) 1 (by omega) HNS.out).trans p1) | (go_at_call 51; refine (cloneShares_c (some ⟨w3.heap.size, 0, none⟩) 1 1 [(x, d)] _ HW.out (by omega) hdl1).mono ?_; rintro e w4 ⟨A4, c4, hs4, rfl, hc4, hO4, hb4⟩; obtain ⟨⟨pA, pc⟩, rfl⟩ := List.length_eq_one_iff.1 hO4.len; have hT4 := then_ (w0 := w3) (B := w3.heap.size) (by repeat (first | with_reducible exact Below.refl _ _ | with_reducible assumption | refine Below.alloc ?_ (by first | omega | (simp; done) | (simp; omega)) _ | refine Below.setCell ?_ (by first | omega | (simp; done) | (simp; omega)) _ | refine Below.drew ?_ | refine below_drewN ?_ _ | exact Below.refl _ _ | assumption)) hb4 (by first | omega | (simp; done) | (simp; omega)); have hz5 := hT4.size; have HO4 := hide hO4; have HOS := hide (ShO.below HO2.out hT4); have p2 := cell_old q2 hT4 hlG; have p0 := cell_old q0 hT4 hlS; have p1 := cell_old q1 hT4 hlS) | fail)
          have hP := HO2.out.push (s := (x, d)) (by decide) hz4 hT4 (own_mono (HO4.out.data 0 (by simp)) (by show w3.heap.size ≤ (w3.alloc (.cells #[.int .i64 x, .slice D d.length cd] 31)).heap.size; simp)) ho5 hg5
          have hP2 : ShO w5 (w.heap.size + 3) 31 A5 (ss.length + 1) c5 (hs ++ [(pA, pc)]) (ss ++ [(x, d)]) := by rw [hl9]; exact hP
          have hB5 := (hT4.mono hz4).trans (grown_below HOS.out.row hg5 (by omega))
          go_wp2_with fail
          go_meet
          exact ⟨A5, c5, _, by rw [hl9], by rw [hl9]; exact hc5, hP2, hB5⟩
        case rest =>
          obtain ⟨A9, c9, hs9, rfl, hc9, hO9, hB9⟩ := hcut
          have HB := hide (HB2.out.trans (hB9.mono (by omega)))
          have HL := hide (HL.out.below hB9 (by omega))
          have HM2 := hide (HM2.out.below hB9 (by omega))
          have hz5 : w.heap.size + 3 ≤ wc.heap.size := Nat.le_trans hz4 hB9.size
          have hlM := HM2.out.lt
          have hlL := HL.out.lt
          have hb0 : ¬ gvBad need ss x d = true := by rw [HBD.out]; decide
          have hd0 : ¬ gvDup ss x = true := by rw [HDP.out]; decide
          have hl9 : (ss ++ [(x, d)]).length = ss.length + 1 := by simp
          have hsec : gvSec need ss x d = cbR (ss ++ [(x, d)]) need := rfl
          have HO9 := hide hO9
          clear HS2 HDW HB2 HDL hO9 hB9 HG2 HO2 hlG
          by_cases hlt : ((ss.length : Nat) : Int) + 1 < need
          · have hcode : gvCode need sum ss x d = 0 := by unfold gvCode; rw [if_neg hb0, if_neg hd0, if_pos hlt]
            have hsh : gvSh need sum ss x d = ss ++ [(x, d)] := by unfold gvSh; rw [if_neg (by rw [hcode]; decide), if_pos hcode]
            have hout : gvOut need sum ss x d = [] := by unfold gvOut; rw [hcode]; rfl
            have HCD := hide hcode
            have HSH := hide hsh
            have HOT := hide hout
            clear hcode hsh hout
            generalize ss ++ [(x, d)] = S at HO9 hl9 HSH ⊢
            have hlt9 : ((ss.length + 1 : Nat) : Int) < need := by omega
            have l0 := HL.out.cell
            have qM := HM2.out.cell
            have fM := HM2.out.frozen
            clear hsec hb0 hd0 HDP HBD
            go_wp2_with fail
            refine bodyPost_ret (v := .tuple #[.agg #[.int .i64 need, .int .i64 sum, .slice A9 (ss.length + 1) c9], .int .i64 0, .slice none 0 0]) (by simp [results, Try.results17, go_sem, qM]) rfl ?_
            show RetGive _ _ _ _ _ _ _ _
            rw [HCD.out, HSH.out, HOT.out]
            rw [← hl9] at hc9 ⊢
            exact give_out HB.out hz5 hc9 (Nat.le_refl _) (by rw [hl9]; exact HO9.out) (World.ownsRow_nil _ _ _ _)
          · have hcode : gvCode need sum ss x d = if dig (cbR (ss ++ [(x, d)]) need) ≠ sum then 2 else 1 := by unfold gvCode; rw [if_neg hb0, if_neg hd0, if_neg hlt, hsec]
            have hsh : gvSh need sum ss x d = [] := by unfold gvSh; rw [if_neg (by rw [hcode]; split <;> decide), if_neg (by rw [hcode]; split <;> decide)]
            have hout : gvOut need sum ss x d = if dig (cbR (ss ++ [(x, d)]) need) ≠ sum then [] else cbR (ss ++ [(x, d)]) need := by
              unfold gvOut
              rw [hcode, hsec]
              split <;> rfl
            have HCD := hide hcode
            have HSH := hide hsh
            have HOT := hide hout
            have hsl := HS3.out
            unfold slOk at hsl
            rw [Bool.and_eq_true, Bool.and_eq_true] at hsl
            have hin := inB_true.1 hsl.1.1
            have hln2 := of_decide_eq_true hsl.1.2
            have hal := give_alike (d := d) hsl.2 (by rw [HLM.out]; exact HT3.out) (by rw [HLM.out, HLN.out]; exact H3.out) HDP.out
            have hneed : need = ((ss.length + 1 : Nat) : Int) := by omega
            have hOK := ok_of_alike hal
            have hcok : cbOk (ss ++ [(x, d)]) need = true := by
              unfold cbOk
              rw [hal, inB_true.2 hin, decide_eq_true (show need ≤ ((ss ++ [(x, d)]).length : Int) by rw [hl9]; omega), decide_eq_true (show (ss ++ [(x, d)]).length ≤ 12 by omega)]
              rfl
            have hkey : cbR (ss ++ [(x, d)]) need = accB (ss ++ [(x, d)]) (ss.length + 1) 0 (lenS (ss ++ [(x, d)])) (ss.length + 1) := by rw [cb_yes hcok, hneed, Int.toNat_natCast]
            have hkl : (cbR (ss ++ [(x, d)]) need).length = lenS (ss ++ [(x, d)]) := by rw [hkey, accB_length]
            have HC : Hid (Calls Try.prog 46 #[.slice A9 (ss.length + 1) c9, .int .i64 0] wc (RetRow 5 1 (cbR (ss ++ [(x, d)]) need).length (bC (cbR (ss ++ [(x, d)]) need)) wc)) := by
              have h := valuesAt_c A9 (ss.length + 1) (ss.length + 1) c9 (ss ++ [(x, d)]) (lenS (ss ++ [(x, d)])) 0 wc HO9.out.rd (by omega) (Nat.le_refl _) (by omega) hOK (by omega)
              rw [← hkey, ← hkl] at h
              exact h
            clear hcode hsh hout hsl hin hln2 hal hneed hOK hcok hkey hkl HS3 HT3 H3
            generalize cbR (ss ++ [(x, d)]) need = key at HC HCD HOT
            generalize ss ++ [(x, d)] = S at HO9 hl9
            have hlt9 : ¬ ((ss.length + 1 : Nat) : Int) < need := by omega
            have l0 := HL.out.cell
            clear hsec hb0 hd0 HDP HBD hlt
            go_wp2_with fail
            refine HC.out.mono ?_
            rintro e w5 ⟨A5, c5, rfl, hc5, ho5, hb5⟩
            have HB := hide (then_ HB.out hb5 HB.out.size)
            have HL := hide (HL.out.below hb5 hlL)
            have HM2 := hide (HM2.out.below hb5 hlM)
            have hz6 := Nat.le_trans hz5 hb5.size
            have HK := hide ho5
            have hlL := HL.out.lt
            have l1 := fun (y : After w5.heap.size w5) => y.cell (HL.out.cell 1) hlL
            clear HC hb5 ho5 l0
            go_wp2_with fail
            refine wp_region_after w5.heap.size (by kernel_rfl) (by kernel_rfl) ?_
            repeat (go_big_quiet_step ((go_at_call 50; exact after_pure (digest_c A5 _ c5 key _ _ (After.rd _ (own_rd HK.out) (Nat.le_refl _) (Nat.le_refl _))))))
            refine wpQuiet_nil ?_
            rintro w6 ⟨x_w6, e_w6⟩
            have hb6 := x_w6.below
            rw [← e_w6] at hb6
            clear e_w6 x_w6
            have HB := hide (then_ HB.out hb6 HB.out.size)
            have HL := hide (HL.out.below hb6 HL.out.lt)
            have HM2 := hide (HM2.out.below hb6 HM2.out.lt)
            have HK2 := hide (own_up HK.out hb6)
            have l0 := HL.out.cell
            have qM := HM2.out.cell
            have fM := HM2.out.frozen
            have hlM := HM2.out.lt
            have hz7 := Nat.le_trans hz6 hb6.size
            clear l1 hb6
            by_cases hdg : dig key = sum
            · have hne : (dig key != sum) = false := by simp [hdg]
              have HCD := hide (HCD.out.trans (if_neg (by simp [hdg])))
              have HOT := hide (HOT.out.trans (if_neg (by simp [hdg])))
              have HDG := hide hdg
              clear hdg
              go_wp2_with fail
              refine bodyPost_ret (v := .tuple #[.agg #[.int .i64 need, .int .i64 sum, .slice none 0 0], .int .i64 1, .slice A5 key.length c5]) (by simp [results, Try.results17, go_sem, qM]) rfl ?_
              show RetGive _ _ _ _ _ _ _ _
              rw [HCD.out, HSH.out, HOT.out]
              exact give_out HB.out hz7 (Nat.le_refl _) hc5 (ShO.nil _ _ _) (own_mono HK2.out hz5)
            · have hne : (dig key != sum) = true := by simp [hdg]
              have HCD := hide (HCD.out.trans (if_pos hdg))
              have HOT := hide (HOT.out.trans (if_pos hdg))
              have HDG := hide hdg
              clear hdg
              go_wp2_with fail
              refine bodyPost_ret (v := .tuple #[.agg #[.int .i64 need, .int .i64 sum, .slice none 0 0], .int .i64 2, .slice none 0 0]) (by simp [results, Try.results17, go_sem, qM]) rfl ?_
              show RetGive _ _ _ _ _ _ _ _
              rw [HCD.out, HSH.out, HOT.out]
              exact give_out HB.out hz7 (Nat.le_refl _) (Nat.le_refl _) (ShO.nil _ _ _) (World.ownsRow_nil _ _ _ _)
theorem GiveShare_i (need sum : Int) (A : Option Addr) (n c : Nat) (ss : List Sh) (x : Int) (D : Option Addr) (m cd : Nat) (d : List UInt8) (w : World) (hr : ShR w w.heap.size A n ss) (hd : Rd w w.heap.size 1 D m (bC d)) (hnc : n ≤ c) (hn : n ≤ 1048576) (hm : m ≤ 1048576) (hdl : ∀ k (h : k < ss.length), ss[k].2.length ≤ 1048576) :
    Calls Try.prog 17 #[.agg #[.int .i64 need, .int .i64 sum, .slice A n c], .agg #[.int .i64 x, .slice D m cd]] w (RetGive need sum (gvSh need sum ss x d) (gvCode need sum ss x d) (gvOut need sum ss x d) w) := by
  cases h : gvBad need ss x d
  · exact GiveShare_io need sum A n c ss x D m cd d w hr hd hnc hn hm hdl h
  · exact GiveShare_ib need sum A n c ss x D m cd d w hr hd hnc hn hdl h
end Go.Proofs.Ytgkjgaijjihmgaa
