/- Putting a rule into a row of rules with room left: what it gives; the contract says for which arguments. -/
import Derived.Test.YtmjmjloiblbhcaaDoorC18
import Derived.Laws.CopyOwn
namespace Go.Proofs.YtmjmjloiblbhcaaDoor
open Go Go.RowKit
set_option maxRecDepth 100000
set_option maxHeartbeats 1000000
theorem ins_shift (base g c : Nat) (l : List Rl) (i : Nat) (r : Rl) (vb : Nat) (w : World) (ho : w.ownsRow base 53 2 (.slice (some ⟨g, 0, none⟩) l.length c) l.length (rC l)) (hb : Blk w vb 53 #[.string r.1, .int .i64 r.2]) (hne : g ≠ vb) (hi : i < l.length) (hc : l.length + 1 ≤ c) :
    Calls Tryd.prog 44 #[.slice (some ⟨g, 0, none⟩) l.length c, .int .i64 (i : Int), .slice (some ⟨vb, 0, none⟩) 1 1] w (RetIns base (some ⟨g, 0, none⟩) (l.take i ++ r :: l.drop i) w) := by
  obtain ⟨hlen, h2⟩ := ho
  rcases h2 with ⟨h0, _⟩ | ⟨g', cap, cur, hv, hbg, hg, hnc, hcm, hcs, htake⟩
  · cases h0
  injection hv with hA hn' hc'
  injection hA with hA
  injection hA with hA
  subst hA
  subst hc'
  have hsz : (Tryd.prog.info? 53).map (·.size) = some 2 := by
    obtain ⟨i0, hi0, _, h1, _⟩ := info_parts info_r
    rw [hi0]; simp [h1]
  have hPl : (rC (l.take i)).length = i * 2 := by rw [rC_length, List.length_take, Nat.min_eq_left (by omega)]
  have hSl : (rC (l.drop i)).length = (l.length - i) * 2 := by rw [rC_length, List.length_drop]
  have hPS := rC_drop l i
  rw [hPS] at htake
  obtain ⟨Z, hz1, hz2, hz3⟩ := shift_rows cur.toList (rC (l.take i)) (rC (l.drop i)) [.string r.1, .int .i64 r.2] (by rw [hPl, hSl, show i * 2 + (l.length - i) * 2 = l.length * 2 from by omega]; exact htake) (by simp only [List.length_cons, List.length_nil, Array.length_toList, hPl, hSl, hcs]; omega)
  simp only [hPl, List.length_cons, List.length_nil, Nat.zero_add] at hz1 hz3
  rw [hSl] at hz1 hz3
  obtain ⟨R1, hR1⟩ : ∃ R1, R1 = cur.toList.take (i * 2 + 2) ++ rC (l.drop i) ++ cur.toList.drop (i * 2 + 2 + (l.length - i) * 2) := ⟨_, rfl⟩
  rw [← hR1] at hz1 hz3
  have hcell : ∀ j, w.cell? ⟨g, j, none⟩ = cur[j]? := fun j => cell_of_row w g j cur _ (0, 0) hg
  have hsrc : ∀ j v, (rC (l.drop i))[j]? = some v → cur[i * 2 + j]? = some v := fun j v hj => by
    have h1 : (cur.toList.take (l.length * 2))[i * 2 + j]? = some v := by
      rw [htake, List.getElem?_append_right (by omega), hPl, Nat.add_sub_cancel_left]; exact hj
    rw [List.getElem?_take] at h1
    split at h1
    · rw [← Array.getElem?_toList]; exact h1
    · cases h1
  have hcp1 : ∀ ty dc sc, (Builtin.copy_ #[24, 24] ty #[.slice (some ⟨g, (i + 1) * 2, none⟩) (l.length - i) dc, .slice (some ⟨g, i * 2, none⟩) (l.length + 1 - i) sc]).run Tryd.prog w.drew = .ok (goInt ((l.length - i : Nat) : Int)) (w.drew.setRow g R1.toArray) := fun ty dc sc => by
    have h := run_copy_rowK (P := Tryd.prog) w.drew 24 24 ty 53 2 g ((i + 1) * 2) (l.length - i) dc ⟨g, i * 2, none⟩ (l.length + 1 - i) sc cur 53 (rC (l.drop i)) Tryd.underlying24 hsz (l.length - i) (by simp only [Nat.min_def]; split <;> omega) hg hSl (fun j v hj => by rw [Addr.add_lit]; exact (hcell _).trans (hsrc j v hj)) (by rw [hSl, hcs]; omega) (rC_one _)
    rw [show (i + 1) * 2 = i * 2 + 2 from by omega, hSl, ← hR1] at h
    rw [show (i + 1) * 2 = i * 2 + 2 from by omega]
    exact h
  have hg1 : (w.drew.setRow g R1.toArray).heap[g]? = some (.cells R1.toArray 53 (0, 0)) := setRow_heap w.drew g cur _ _ _ hg
  have hb1 : (w.drew.setRow g R1.toArray).heap[vb]? = some (.cells #[.string r.1, .int .i64 r.2] 53 (0, 0)) := (setRow_other w.drew g vb _ (fun e => hne e.symm)).trans hb
  have hcp2 : ∀ (W : World), W.heap = (w.drew.setRow g R1.toArray).heap → ∀ ty dc, (Builtin.copy_ #[24, 24] ty #[.slice (some ⟨g, i * 2, none⟩) (l.length + 1 - i) dc, .slice (some ⟨vb, 0, none⟩) 1 1]).run Tryd.prog W = .ok (goInt 1) (W.setRow g (rC (l.take i) ++ [Value.string r.1, Value.int .i64 r.2] ++ rC (l.drop i) ++ Z).toArray) := fun W hW ty dc => by
    have h := run_copy_rowK (P := Tryd.prog) W 24 24 ty 53 2 g (i * 2) (l.length + 1 - i) dc ⟨vb, 0, none⟩ 1 1 R1.toArray 53 [.string r.1, .int .i64 r.2] Tryd.underlying24 hsz 1 (by simp only [Nat.min_def]; split <;> omega) (by rw [hW]; exact hg1) rfl (fun j v hj => by
        rw [Addr.add_lit, Nat.zero_add, cell_of_row W vb j _ _ (0, 0) (by rw [hW]; exact hb1), ← Array.getElem?_toList]; exact hj) (by simp only [List.length_cons, List.length_nil, List.size_toArray]; rw [hz3, Array.length_toList, hcs]; omega) (by simp [Value.oneCell'])
    simp only [List.length_cons, List.length_nil, Nat.zero_add] at h
    rw [hz1] at h
    exact h
  have hov : ∀ lb cb, (callFunc 70 #[.slice (some ⟨vb, 0, none⟩) 1 1, .slice (some ⟨g, (i + 1) * 2, none⟩) lb cb]).run Tryd.prog w = .ok (.value (.bool false)) w := fun lb cb => by
    obtain ⟨i0, hi0, _, h1, _⟩ := info_parts info_r
    have hz : ∀ w : World, (sizeOf 53).run Tryd.prog w = .ok 2 w := fun w => by simp [sizeOf, typeInfo, hi0, h1]
    have hsa : w.shape? vb = some (53, 2) := by
      have : w.heap[vb]? = some (.cells #[.string r.1, .int .i64 r.2] 53 (0, 0)) := hb
      simp [World.shape?, this]
    have hsb : w.shape? g = some (53, c * 2) := by simp [World.shape?, hg, hcs]
    have hfr : ∀ k, w.frozen? ⟨vb, k, none⟩ = false := fun k => by
      have : w.heap[vb]? = some (.cells #[.string r.1, .int .i64 r.2] 53 (0, 0)) := hb
      simp [World.frozen?, this]
    rw [run_callFunc_extern Tryd.func70 (by kernel_rfl) (by kernel_rfl) (by kernel_rfl) (e := Extern.SlicesOverlaps.overlaps #[24, 24] #[4]) (by kernel_rfl),
      Lib.run_overlaps_apart w 24 4 53 Tryd.underlying24 2 hz ⟨vb, 0, none⟩ ⟨g, (i + 1) * 2, none⟩ 1 1 lb cb (fun e => hne e.symm) 53 53 2 (c * 2) hsa hsb (by omega) (hfr _) (hfr _)]
    rfl
  have HZ2 := hide hz2
  have HG1 := hide hg1
  have HCP1 := hide hcp1
  have HCP2 := hide hcp2
  have HOV := hide hov
  have HHG := hide hg
  have HX : Hid (base ≤ g ∧ c ≤ maxLen ∧ cur.size = c * 2) := ⟨hbg, hcm, hcs⟩
  have HPL := hide hPl
  have HSL := hide hSl
  have hc63 : c ≤ 9223372036854775807 := by simp only [maxLen] at hcm; omega
  clear hg1 hb1 hcell hsrc hz2 hz3 hz1 hR1 hPl hSl hPS hcp1 hcp2 hov hg hbg hcm hcs htake hlen hsz hb hn' hne
  have hin : i ≤ l.length := by omega
  have hcne : ¬ (c = i) := by omega
  have hcne2 : ¬ (c = i + 1) := by omega
  have hin1 : ¬ ((i : Int) = (l.length : Int)) := by omega
  have hw1 : IntKind.i64.wrap ((i : Int) + 1) = (i : Int) + 1 := by rw [IntKind.wrap_i64]; omega
  have htn : ((i : Int) + 1).toNat = i + 1 := by omega
  have hb1 : (0 : Int) ≤ (i : Int) + 1 := by omega
  have hb3 : (i : Int) + 1 ≤ (l.length : Int) + 1 := by omega
  have hb4 : (i : Int) ≤ (l.length : Int) + 1 := by omega
  have hroom : ¬ ((c : Int) < (l.length : Int) + 1) := by omega
  go_enter Tryd.func44, Tryd.ntmps44
  go_wp2_with (simp only [HOV.out])
  go_region_law (refine step_copy_runI rfl _ _ 24 24 rfl (.slice (some ⟨g, (i + 1) * 2, none⟩) (l.length - i) (c - (i + 1))) (.slice (some ⟨g, i * 2, none⟩) (l.length + 1 - i) (c - i)) (by simp [Act.eval, Act.put]) (by simp [Act.eval, Act.put]) (HCP1.out 3 (c - (i + 1)) (c - i)) ?_)
  go_wp2_with (rw [HCP2.out (w.drew.setRow g R1.toArray) rfl]; simp only [Result.andThen_ok])
  go_ret
  obtain ⟨hbg, hcm, hcs⟩ := HX.out
  refine ⟨some ⟨g, 0, none⟩, c, by rw [ins_length]; rfl, by rw [ins_length]; exact hc, ins_own (Z := Z) (n := cur.toList.length) hbg ?_ hc hcm (by rw [Array.length_toList, hcs]) HZ2.out, below_setRow (below_setRow (Below.drew (Below.refl _ _)) hbg _) hbg _, fun k _ hk => (setRow_other _ _ _ _ (fun e => hk _ rfl e.symm)).trans (setRow_other _ _ _ _ (fun e => hk _ rfl e.symm))⟩
  have h := setRow_heap (w.drew.setRow g R1.toArray) g _ (rC (l.take i) ++ [Value.string r.1, Value.int .i64 r.2] ++ rC (l.drop i) ++ Z).toArray _ _ HG1.out
  simpa using h
end Go.Proofs.YtmjmjloiblbhcaaDoor
