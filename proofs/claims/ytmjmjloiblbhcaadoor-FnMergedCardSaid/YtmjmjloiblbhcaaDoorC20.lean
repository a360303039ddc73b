/- Putting a rule into a row of rules with no room left: what it gives; the contract says for which arguments. -/
import Derived.Test.YtmjmjloiblbhcaaDoorC18
import Derived.Laws.CopyOwn
namespace Go.Proofs.YtmjmjloiblbhcaaDoor
open Go Go.RowKit
set_option maxRecDepth 100000
set_option maxHeartbeats 1000000
theorem zc_size (z : Array Value) (n : Nat) : (Builtin.zeroCells z n).size = n * z.size := by simp [Builtin.zeroCells]
theorem ins_grow (base g c : Nat) (l : List Rl) (i : Nat) (r : Rl) (vb : Nat) (w : World) (ho : w.ownsRow base 53 2 (.slice (some ⟨g, 0, none⟩) l.length c) l.length (rC l)) (hb : Blk w vb 53 #[.string r.1, .int .i64 r.2]) (hbase : base ≤ w.heap.size) (hl : l.length ≤ 100000) (hi : i < l.length) (hc : c < l.length + 1) :
    Calls Tryd.prog 44 #[.slice (some ⟨g, 0, none⟩) l.length c, .int .i64 (i : Int), .slice (some ⟨vb, 0, none⟩) 1 1] w (RetIns base (some ⟨g, 0, none⟩) (l.take i ++ r :: l.drop i) w) := by
  obtain ⟨hlen, h2⟩ := ho
  rcases h2 with ⟨h0, _⟩ | ⟨g', cap, cur, hv, hbg, hg, hnc, hcm, hcs, htake⟩
  · cases h0
  injection hv with hA hn' hc'
  injection hA with hA
  injection hA with hA
  subst hA
  subst hc'
  obtain ⟨i0, hi0, hz0, hzs, hzb⟩ := info_parts info_r
  have hsz : (Tryd.prog.info? 53).map (·.size) = some 2 := by rw [hi0]; simp [hzs]
  have hPl : (rC (l.take i)).length = i * 2 := by rw [rC_length, List.length_take, Nat.min_eq_left (by omega)]
  have hSl : (rC (l.drop i)).length = (l.length - i) * 2 := by rw [rC_length, List.length_drop]
  have hPS := rC_drop l i
  rw [hPS] at htake
  have hgw : g < w.heap.size := by
    obtain ⟨h, _⟩ := Array.getElem?_eq_some_iff.1 hg
    exact h
  have hvw : vb < w.heap.size := hb.lt
  have hcell : ∀ j, w.cell? ⟨g, j, none⟩ = cur[j]? := fun j => cell_of_row w g j cur _ (0, 0) hg
  have hfirst : ∀ j v, (rC (l.take i))[j]? = some v → w.cell? ⟨g, j, none⟩ = some v := fun j v hj => by
    have hjl : j < (rC (l.take i)).length := (List.getElem?_eq_some_iff.1 hj).1
    have h1 : (cur.toList.take (l.length * 2))[j]? = some v := by
      rw [htake, List.getElem?_append_left hjl]; exact hj
    rw [List.getElem?_take] at h1
    split at h1
    · rw [hcell, ← Array.getElem?_toList]; exact h1
    · cases h1
  have hsrc : ∀ j v, (rC (l.drop i))[j]? = some v → w.cell? ⟨g, i * 2 + j, none⟩ = some v := fun j v hj => by
    have h1 : (cur.toList.take (l.length * 2))[i * 2 + j]? = some v := by
      rw [htake, List.getElem?_append_right (by omega), hPl, Nat.add_sub_cancel_left]; exact hj
    rw [List.getElem?_take] at h1
    split at h1
    · rw [hcell, ← Array.getElem?_toList]; exact h1
    · cases h1
  have hkk : (l.length : Int) + 1 - (i : Int) = ((l.length + 1 - i : Nat) : Int) := by omega
  have hik : i + (l.length + 1 - i) = l.length + 1 := by omega
  have hold : (Builtin.firstCells i0.size i (.slice (some ⟨g, 0, none⟩) i c)).run Tryd.prog w.drew = .ok (rC (l.take i)).toArray w.drew := by
    rw [hzs]
    exact run_firstCells_some w.drew 2 i ⟨g, 0, none⟩ i c (rC (l.take i)) hPl (fun j v hj => by
      rw [Addr.add_lit, Nat.zero_add]
      exact hfirst j v hj)
  obtain ⟨G, hG⟩ : ∃ G, G = grownCap w (l.length + 1) c 53 := ⟨_, rfl⟩
  obtain ⟨ROW, hROW⟩ : ∃ ROW : Array Value, ROW = (rC (l.take i)).toArray ++ Builtin.zeroCells (Value.agg #[.string ⟨#[]⟩, .int .i64 0]).cells (l.length + 1 - i) ++ Builtin.zeroCells (Value.agg #[.string ⟨#[]⟩, .int .i64 0]).cells (G - (l.length + 1)) := ⟨_, rfl⟩
  have hrz : ∀ ty, (Builtin.append_ #[24, 3] ty #[.slice (some ⟨g, 0, none⟩) i c, .int .i64 ((l.length : Int) + 1 - (i : Int))]).run Tryd.prog w =
      .ok (.slice (some ⟨w.heap.size, 0, none⟩) (l.length + 1) G) (w.drew.alloc (.cells ROW 53)) := fun ty => by
    have h := Lib.run_append_grow_zeros w 24 3 ty 53 i0 _ .i64 .i64 Tryd.underlying24 Tryd.underlying3 hi0 hz0 (some ⟨g, 0, none⟩) i c (rC (l.take i)) hold (l.length + 1 - i) (by omega) (by omega) (by omega) (by omega) (by rw [hzb]; omega) (by rw [hzb, hik]; exact growslice_fits hc (by omega))
    rw [hik, ← hG, ← hROW] at h
    rw [hkk]
    exact h
  have hGn : l.length + 1 ≤ G := by rw [hG]; exact grownCap_ge w _ _ _
  have hGm : G ≤ maxLen := by
    rw [hG]
    exact grownCap_le_maxLen w (l.length + 1) c 53 (by unfold maxLen; omega)
  have hRs : ROW.size = G * 2 := by
    rw [hROW, Array.size_append, Array.size_append, zc_size, zc_size, List.size_toArray, hPl]
    show i * 2 + (l.length + 1 - i) * 2 + (G - (l.length + 1)) * 2 = G * 2
    omega
  have hRP : ROW.toList.take (rC (l.take i)).length = rC (l.take i) := by
    rw [hROW, Array.toList_append, Array.toList_append, List.append_assoc, List.toList_toArray, List.take_left]
  obtain ⟨Z, hz1, hz2, hz3⟩ := grow_rows ROW.toList (rC (l.take i)) (rC (l.drop i)) [.string r.1, .int .i64 r.2] hRP (by simp only [List.length_cons, List.length_nil, Array.length_toList, hPl, hSl, hRs]; omega)
  simp only [hPl, List.length_cons, List.length_nil, Nat.zero_add] at hz1 hz3
  rw [hSl] at hz1
  obtain ⟨R1, hR1⟩ : ∃ R1, R1 = ROW.toList.take (i * 2) ++ [Value.string r.1, Value.int .i64 r.2] ++ ROW.toList.drop (i * 2 + 2) := ⟨_, rfl⟩
  rw [← hR1] at hz1 hz3
  have hcpA : ∀ (W : World), W.heap = w.heap.push (.cells ROW 53 (0, 0)) → ∀ ty dc, (Builtin.copy_ #[24, 24] ty #[.slice (some ⟨w.heap.size, i * 2, none⟩) (l.length + 1 - i) dc, .slice (some ⟨vb, 0, none⟩) 1 1]).run Tryd.prog W = .ok (goInt 1) (W.setRow w.heap.size R1.toArray) := fun W hW ty dc => by
    have hN : W.heap[w.heap.size]? = some (.cells ROW 53 (0, 0)) := by rw [hW]; simp
    have hV : W.heap[vb]? = some (.cells #[.string r.1, .int .i64 r.2] 53 (0, 0)) := by rw [hW, Array.getElem?_push_lt hvw, ← Array.getElem?_eq_getElem hvw]; exact hb
    have h := run_copy_rowK (P := Tryd.prog) W 24 24 ty 53 2 w.heap.size (i * 2) (l.length + 1 - i) dc ⟨vb, 0, none⟩ 1 1 ROW 53 [.string r.1, .int .i64 r.2] Tryd.underlying24 hsz 1 (by simp only [Nat.min_def]; split <;> omega) hN rfl (fun j v hj => by
        rw [Addr.add_lit, Nat.zero_add, cell_of_row W vb j _ _ (0, 0) hV, ← Array.getElem?_toList]; exact hj) (by simp only [List.length_cons, List.length_nil, hRs]; omega) (by simp [Value.oneCell'])
    simp only [List.length_cons, List.length_nil, Nat.zero_add] at h
    rw [← hR1] at h
    exact h
  have hcpB : ∀ (W V : World), W.heap = (V.setRow w.heap.size R1.toArray).heap → V.heap = w.heap.push (.cells ROW 53 (0, 0)) → ∀ ty dc sc, (Builtin.copy_ #[24, 24] ty #[.slice (some ⟨w.heap.size, (i + 1) * 2, none⟩) (l.length - i) dc, .slice (some ⟨g, i * 2, none⟩) (l.length - i) sc]).run Tryd.prog W = .ok (goInt ((l.length - i : Nat) : Int)) (W.setRow w.heap.size (rC (l.take i) ++ [Value.string r.1, Value.int .i64 r.2] ++ rC (l.drop i) ++ Z).toArray) := fun W V hW hV ty dc sc => by
    have hN0 : V.heap[w.heap.size]? = some (.cells ROW 53 (0, 0)) := by rw [hV]; simp
    have hN : W.heap[w.heap.size]? = some (.cells R1.toArray 53 (0, 0)) := by rw [hW]; exact setRow_heap V _ ROW _ _ _ hN0
    have hO : W.heap[g]? = some (.cells cur 53 (0, 0)) := by rw [hW, setRow_other V _ g _ (by omega), hV, Array.getElem?_push_lt hgw, ← Array.getElem?_eq_getElem hgw]; exact hg
    have h := run_copy_rowK (P := Tryd.prog) W 24 24 ty 53 2 w.heap.size ((i + 1) * 2) (l.length - i) dc ⟨g, i * 2, none⟩ (l.length - i) sc R1.toArray 53 (rC (l.drop i)) Tryd.underlying24 hsz (l.length - i) (by simp only [Nat.min_def]; split <;> omega) hN hSl (fun j v hj => by
        rw [Addr.add_lit, cell_of_row W g _ cur _ (0, 0) hO, ← hcell]; exact hsrc j v hj) (by rw [hSl, List.size_toArray, hz3]; have := Array.length_toList (xs := ROW); omega) (rC_one _)
    rw [show (i + 1) * 2 = i * 2 + 2 from by omega, hSl, hz1] at h
    rw [show (i + 1) * 2 = i * 2 + 2 from by omega]
    exact h
  have HZ2 := hide hz2
  have HRZ := hide hrz
  have HCPA := hide hcpA
  have HCPB := hide hcpB
  have HX : Hid (G ≤ maxLen ∧ ROW.size = G * 2 ∧ l.length + 1 ≤ G) := ⟨hGm, hRs, hGn⟩
  have HPL := hide hPl
  have HSL := hide hSl
  have hG63 : G ≤ 9223372036854775807 := by simp only [maxLen] at hGm; omega
  have hcap63 : c ≤ 9223372036854775807 := by simp only [maxLen] at hcm; omega
  have hGi : ¬ (G = i) := by omega
  have hGim : ¬ (G = i + 1) := by omega
  have hci : ¬ (c = i) := by omega
  have hin : i ≤ l.length := by omega
  have hin1 : ¬ ((i : Int) = (l.length : Int)) := by omega
  have hw1 : IntKind.i64.wrap ((i : Int) + 1) = (i : Int) + 1 := by rw [IntKind.wrap_i64]; omega
  have htn : ((i : Int) + 1).toNat = i + 1 := by omega
  have hb1 : (0 : Int) ≤ (i : Int) + 1 := by omega
  have hb3 : (i : Int) + 1 ≤ (l.length : Int) + 1 := by omega
  have hb4 : (i : Int) ≤ (l.length : Int) + 1 := by omega
  have hroom : (c : Int) < (l.length : Int) + 1 := by omega
  clear hz1 hz2 hz3 hR1 hrz hcpA hcpB hRP hRs hROW hG hold hkk hik hPl hSl hPS hcell hfirst hsrc hg hbg hcm hcs htake hlen hsz hb hn' hi0 hz0 hzs hzb hGm
  go_enter Tryd.func44, Tryd.ntmps44
  go_wp2_with (first | (at_builtin; refine Lib.wpList_append_run _ rfl _ _ _ _ rfl _ _ rfl rfl _ _ (HRZ.out _) ?_) | (rw [HCPA.out ((w.alloc (Obj.cells ROW 53)).drew) rfl]; simp only [Result.andThen_ok]))
  go_region_law (refine step_copy_runI rfl _ _ 24 24 rfl (.slice (some ⟨w.heap.size, (i + 1) * 2, none⟩) (l.length - i) (G - (i + 1))) (.slice (some ⟨g, i * 2, none⟩) (l.length - i) (c - i)) (by simp [Act.eval, Act.put]) (by simp [Act.eval, Act.put]) (HCPB.out (((w.alloc (Obj.cells ROW 53)).drew.setRow w.heap.size R1.toArray).drew) ((w.alloc (Obj.cells ROW 53)).drew) rfl rfl 3 (G - (i + 1)) (c - i)) ?_)
  go_wp2_with fail
  go_ret
  obtain ⟨hGm, hRs, hGn⟩ := HX.out
  refine ⟨some ⟨w.heap.size, 0, none⟩, G, by rw [ins_length]; rfl, by rw [ins_length]; exact hGn, ins_own (Z := Z) (n := ROW.toList.length) hbase ?_ hGn hGm (by rw [Array.length_toList, hRs]) HZ2.out, below_setRow (Below.drew (below_setRow (Below.drew (Below.alloc (Below.refl _ _) hbase _)) hbase _)) hbase _, fun k hk _ => (setRow_other _ _ _ _ (by omega)).trans ((setRow_other _ _ _ _ (by omega)).trans (Below.heap_alloc w _ k hk))⟩
  have hN0 : ((w.alloc (.cells ROW 53)).drew).heap[w.heap.size]? = some (.cells ROW 53 (0, 0)) := by
    show (w.heap.push _)[w.heap.size]? = _
    simp
  have hN1 : (((w.alloc (.cells ROW 53)).drew.setRow w.heap.size R1.toArray).drew).heap[w.heap.size]? = some (.cells R1.toArray 53 (0, 0)) := setRow_heap _ _ _ _ _ _ hN0
  have h := setRow_heap (((w.alloc (.cells ROW 53)).drew.setRow w.heap.size R1.toArray).drew) w.heap.size _ (rC (l.take i) ++ [Value.string r.1, Value.int .i64 r.2] ++ rC (l.drop i) ++ Z).toArray _ _ hN1
  simpa using h
end Go.Proofs.YtmjmjloiblbhcaaDoor
