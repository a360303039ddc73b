/- What the program's functions on paths give (GlobOk, PathOk, SplitPath, JoinPath, ParentPath, UnderPath, Covers, CompareGlob, MatchGlob); each contract says for which arguments. -/
import Derived.Test.YtlhhdpjnoainiaaDoorB3
import Derived.Test.YtlhhdpjnoainiaaDoorMem2
namespace Go.Proofs.YtlhhdpjnoainiaaDoor
open Go.RowKit
set_option maxRecDepth 100000
set_option maxHeartbeats 400000
theorem GlobOk_i (s : ByteArray) (w : World) (hg : GM w) (hs : s.size < 4294967281) :
    Calls Tryd.prog 16 #[.string s] w (RetV (.bool (globB s)) w) := by
  go_enter Tryd.func16, Tryd.ntmps16
  go_wp2_with fail
  refine (isGlob_c s w hg hs).mono ?_
  rintro e w1 ⟨rfl, hb⟩
  go_wp2_with fail
  go_ret
  exact ⟨rfl, hb⟩
theorem PathOk_i (s : ByteArray) (w : World) (hg : GM w) (hs : s.size < 4294967281) :
    Calls Tryd.prog 18 #[.string s] w (RetV (.bool (pathB s)) w) := by
  go_enter Tryd.func18, Tryd.ntmps18
  go_wp2_with fail
  refine (isPath_c s w hg hs).mono ?_
  rintro e w1 ⟨rfl, hb⟩
  go_wp2_with fail
  go_ret
  exact ⟨rfl, hb⟩
/-- texts in new memory, and a bool -/
def RetStrs (l : List ByteArray) (ok : Bool) (w : World) (en : Ending) (w' : World) : Prop :=
  ∃ A c, en = .returned (.tuple #[.slice A l.length c, .bool ok]) ∧ l.length ≤ c ∧ w'.ownsRow w.heap.size 9 1 (.slice A l.length c) l.length (sC l) ∧ Below w.heap.size w w'
def splitA (s : ByteArray) : List ByteArray := if globB s then prt 47 s else []
theorem SplitPath_i (s : ByteArray) (w : World) (hg : GM w) (hs : s.size < 4294967281) :
    Calls Tryd.prog 20 #[.string s] w (RetStrs (splitA s) (globB s) w) := by
  cases hgb : globB s
  · have HQ : Hid (splitA s = []) := by show splitA s = []; unfold splitA; rw [hgb]; rfl
    have HG := hide hgb
    clear hgb
    go_enter Tryd.func20, Tryd.ntmps20
    go_wp2_with fail
    refine (isGlob_c s w hg hs).mono ?_
    rintro e w1 ⟨rfl, hb⟩
    rw [HG.out]
    go_wp2_with fail
    refine bodyPost_ret (v := .tuple #[.slice none 0 0, .bool false]) (by simp [results, Tryd.results20, go_sem]) rfl ?_
    rw [HQ.out]
    exact ⟨none, 0, rfl, Nat.le_refl _, World.ownsRow_nil _ _ _ _, hb⟩
  · have HQ : Hid (splitA s = prt 47 s) := by show splitA s = _; unfold splitA; rw [hgb]; rfl
    have HG := hide hgb
    clear hgb
    go_enter Tryd.func20, Tryd.ntmps20
    go_wp2_with fail
    refine (isGlob_c s w hg hs).mono ?_
    rintro e w0 ⟨rfl, hb0⟩
    rw [HG.out]
    go_wp2_with fail
    refine (split_c s w0 (hg.up hb0) hs).mono ?_
    rintro e w1 ⟨A, c, rfl, hc, hown, hb1⟩
    have hB := then_ hb0 hb1 hb0.size
    have HO := hide (own_mono hown hb0.size)
    clear hown
    go_wp2_with fail
    refine bodyPost_ret (v := .tuple #[.slice A (prt 47 s).length c, .bool true]) (by simp [results, Tryd.results20, go_sem]) rfl ?_
    rw [HQ.out]
    exact ⟨A, c, rfl, hc, HO.out, hB⟩
def joinOk (segs : List ByteArray) : Bool := globB (joinB segs) && decide ((prt 47 (joinB segs)).length = segs.length)
def joinA (segs : List ByteArray) : ByteArray := if joinOk segs then joinB segs else ⟨#[]⟩
theorem join_c (A : Option Addr) (c : Nat) (l : List ByteArray) (w : World) (hr : Rd w w.heap.size 1 A l.length (sC l)) (hc : l.length ≤ c) (hN : l.length ≤ 140737488355328) (hj : (joinB l).size ≤ 140737488355328) :
    Calls Tryd.prog 51 #[.slice A l.length c, .string { data := #[47] }] w (RetV (.string (joinB l)) w) := by
  cases hl : l with
  | nil =>
    refine (Tryd.strings_Join_none A c _ w).mono ?_
    rintro e w' ⟨rfl, rfl⟩
    exact ⟨rfl, Below.refl _ _⟩
  | cons x t =>
    rw [← hl]
    have h0 : 0 < l.length := by rw [hl]; simp
    obtain ⟨b, off, rfl, hblt, _⟩ := hr.str h0
    refine (Tryd.strings_Join b off c l { data := #[47] } w (fun j x hx => ?_) hblt hN hc ?_).mono ?_
    · obtain ⟨hj, hx⟩ := List.getElem?_eq_some_iff.1 hx
      obtain ⟨b', off', e, _, hl, hc⟩ := hr.str hj
      cases e
      rw [hc, hx]
    · have := joinL_lib 47 (l.map (fun x => x.data.toList))
      have e2 : (joinB l).size = (joinL 47 (l.map (fun x => x.data.toList))).length := rfl
      show (Lib.join _ [47]).length ≤ _
      rw [← this, ← e2]; exact hj
    · rintro e w' ⟨rfl, hb⟩
      refine ⟨?_, hb⟩
      have := joinL_lib 47 (l.map (fun x => x.data.toList))
      show Ending.returned (.string ⟨(Lib.join _ [47]).toArray⟩) = _
      rw [← this]; rfl
theorem countByte_prt (s : ByteArray) : (Lib.countByte s.data.toList 47 : Int) = ((prt 47 s).length : Int) - 1 := by
  rw [prt_length, partsL_length]; unfold Lib.countByte; omega
theorem JoinPath_i (A : Option Addr) (c : Nat) (l : List ByteArray) (w : World) (hg : GM w) (hr : Rd w w.heap.size 1 A l.length (sC l)) (hc : l.length ≤ c) (hN : l.length ≤ 140737488355328) (hj : (joinB l).size < 4294967281) :
    Calls Tryd.prog 27 #[.slice A l.length c] w (RetV (.tuple #[.string (joinA l), .bool (joinOk l)]) w) := by
  have hJ := join_c A c l w hr hc hN (by omega)
  have HL : Hid (joinOk l = (globB (joinB l) && decide ((prt 47 (joinB l)).length = l.length))) := rfl
  have HA : Hid (joinA l = if joinOk l then joinB l else ⟨#[]⟩) := rfl
  generalize joinB l = J at hJ HL HA hj
  generalize joinOk l = ok at HL HA ⊢
  generalize joinA l = R at HA ⊢
  cases hgb : globB J
  · have HQ : Hid (ok = false) := by show ok = false; rw [HL.out, hgb]; rfl
    have HR : Hid (R = ⟨#[]⟩) := by show R = _; rw [HA.out, HQ.out]; rfl
    have HG := hide hgb
    clear hgb
    go_enter Tryd.func27, Tryd.ntmps27
    go_wp2_with fail
    refine hJ.mono ?_
    rintro e w1 ⟨rfl, hb⟩
    go_wp2_with fail
    refine (isGlob_c J w1 (hg.up hb) hj).mono ?_
    rintro e w2 ⟨rfl, hb2⟩
    have hB := then_ hb hb2 hb.size
    rw [HG.out]
    go_wp2_with fail
    refine bodyPost_ret (v := .tuple #[.string ⟨#[]⟩, .bool false]) (by simp [results, Tryd.results27, go_sem]) rfl ?_
    rw [HQ.out, HR.out]
    exact ⟨rfl, hB⟩
  · have HG := hide hgb
    have HC : Hid (Lib.countByte J.data.toList 47 = ((prt 47 J).length : Int) - 1) := countByte_prt J
    have hn := hr.bd
    by_cases hlen : (prt 47 J).length = l.length
    · have HQ : Hid (ok = true) := by show ok = true; rw [HL.out, hgb]; simp [hlen]
      have HR : Hid (R = J) := by show R = _; rw [HA.out, HQ.out]; rfl
      have HX : Hid (((Lib.countByte J.data.toList 47 : Int) == (l.length : Int) - 1) = true) := by
        show (_ == _) = true
        rw [HC.out, hlen]; simp
      clear hgb hlen
      go_enter Tryd.func27, Tryd.ntmps27
      go_wp2_with fail
      refine hJ.mono ?_
      rintro e w1 ⟨rfl, hb⟩
      go_wp2_with fail
      refine (isGlob_c J w1 (hg.up hb) hj).mono ?_
      rintro e w2 ⟨rfl, hb2⟩
      have hB := then_ hb hb2 hb.size
      rw [HG.out]
      go_wp2_with fail
      refine (Tryd.strings_Count_one J 47 w2).mono ?_
      rintro e w' ⟨rfl, rfl⟩
      have hx := HX.out
      go_wp2_with fail
      refine bodyPost_ret (v := .tuple #[.string J, .bool true]) (by simp [results, Tryd.results27, go_sem]) rfl ?_
      rw [HQ.out, HR.out]
      exact ⟨rfl, hB⟩
    · have HQ : Hid (ok = false) := by show ok = false; rw [HL.out, hgb]; simp [hlen]
      have HR : Hid (R = ⟨#[]⟩) := by show R = _; rw [HA.out, HQ.out]; rfl
      have HX : Hid (((Lib.countByte J.data.toList 47 : Int) == (l.length : Int) - 1) = false) := by
        show (_ == _) = false
        rw [HC.out]; simp; omega
      clear hgb hlen
      go_enter Tryd.func27, Tryd.ntmps27
      go_wp2_with fail
      refine hJ.mono ?_
      rintro e w1 ⟨rfl, hb⟩
      go_wp2_with fail
      refine (isGlob_c J w1 (hg.up hb) hj).mono ?_
      rintro e w2 ⟨rfl, hb2⟩
      have hB := then_ hb hb2 hb.size
      rw [HG.out]
      go_wp2_with fail
      refine (Tryd.strings_Count_one J 47 w2).mono ?_
      rintro e w' ⟨rfl, rfl⟩
      have hx := HX.out
      go_wp2_with fail
      refine bodyPost_ret (v := .tuple #[.string ⟨#[]⟩, .bool false]) (by simp [results, Tryd.results27, go_sem]) rfl ?_
      rw [HQ.out, HR.out]
      exact ⟨rfl, hB⟩
def parOk (s : ByteArray) : Bool := pathB s && decide (2 ≤ (prt 47 s).length)
def parA (s : ByteArray) : ByteArray := if parOk s then parentB s else ⟨#[]⟩
theorem ParentPath_i (s : ByteArray) (w : World) (hg : GM w) (hs : s.size < 4294967281) :
    Calls Tryd.prog 29 #[.string s] w (RetV (.tuple #[.string (parA s), .bool (parOk s)]) w) := by
  have HL : Hid (parOk s = (pathB s && decide (2 ≤ (prt 47 s).length))) := rfl
  have HA : Hid (parA s = if parOk s then parentB s else ⟨#[]⟩) := rfl
  have hLI := Tryd.strings_LastIndexByte s 47 (by omega) w
  generalize parOk s = ok at HL HA ⊢
  generalize parA s = R at HA ⊢
  cases hgb : pathB s
  · have HQ : Hid (ok = false) := by show ok = false; rw [HL.out, hgb]; rfl
    have HR : Hid (R = ⟨#[]⟩) := by show R = _; rw [HA.out, HQ.out]; rfl
    have HG := hide hgb
    clear hgb
    go_enter Tryd.func29, Tryd.ntmps29
    go_wp2_with fail
    refine hLI.mono ?_
    rintro e w1 ⟨rfl, rfl⟩
    go_wp2_with fail
    refine (isPath_c s w1 hg hs).mono ?_
    rintro e w2 ⟨rfl, hb2⟩
    rw [HG.out]
    go_wp2_with fail
    refine bodyPost_ret (v := .tuple #[.string ⟨#[]⟩, .bool false]) (by simp [results, Tryd.results29, go_sem]) rfl ?_
    rw [HQ.out, HR.out]
    exact ⟨rfl, hb2⟩
  · have HG := hide hgb
    by_cases hlen : 2 ≤ (prt 47 s).length
    · have HQ : Hid (ok = true) := by show ok = true; rw [HL.out, hgb]; simp [hlen]
      have HR : Hid (R = parentB s) := by show R = _; rw [HA.out, HQ.out]; rfl
      have HI := hide (last_some hlen)
      obtain ⟨q, hq, _⟩ := prt_getLast s
      have hd := parent_data hlen hq
      have hss : s.size = s.data.toList.length := rfl
      have hps : (parentB s).size = (parentB s).data.toList.length := rfl
      have hle : (parentB s).size ≤ s.size := by rw [hss, hd, hps]; simp
      have HX : Hid (s.extract 0 (parentB s).size = parentB s) := by
        show _ = _
        apply ext_data
        rw [ByteArray.data_extract, Array.toList_extract, hps]
        simp only [List.extract, Nat.sub_zero, List.drop_zero]
        rw [hd]; simp
      clear hgb hlen hq hd hss hps
      generalize parentB s = P at HI HR HX hle
      go_enter Tryd.func29, Tryd.ntmps29
      go_wp2_with fail
      refine hLI.mono ?_
      rintro e w1 ⟨rfl, rfl⟩
      rw [HI.out]
      go_wp2_with fail
      refine (isPath_c s w1 hg hs).mono ?_
      rintro e w2 ⟨rfl, hb2⟩
      rw [HG.out]
      go_wp2_with fail
      refine bodyPost_ret (v := .tuple #[.string P, .bool true]) (by simp [results, Tryd.results29, go_sem]; exact HX.out) rfl ?_
      rw [HQ.out, HR.out]
      exact ⟨rfl, hb2⟩
    · have HQ : Hid (ok = false) := by show ok = false; rw [HL.out, hgb]; simp [hlen]
      have HR : Hid (R = ⟨#[]⟩) := by show R = _; rw [HA.out, HQ.out]; rfl
      have HI := hide (last_none (s := s) (by have := prt_pos 47 s; omega))
      clear hgb hlen
      go_enter Tryd.func29, Tryd.ntmps29
      go_wp2_with fail
      refine hLI.mono ?_
      rintro e w1 ⟨rfl, rfl⟩
      rw [HI.out]
      go_wp2_with fail
      refine (isPath_c s w1 hg hs).mono ?_
      rintro e w2 ⟨rfl, hb2⟩
      rw [HG.out]
      go_wp2_with fail
      refine bodyPost_ret (v := .tuple #[.string ⟨#[]⟩, .bool false]) (by simp [results, Tryd.results29, go_sem]) rfl ?_
      rw [HQ.out, HR.out]
      exact ⟨rfl, hb2⟩
def underB (p q : ByteArray) : Bool := pathB p && (pathB q && underL p.data.toList q.data.toList)
theorem path_size {s : ByteArray} (h : pathB s = true) : s.size ≤ 120 := by
  simp only [pathB, Bool.and_eq_true] at h
  exact (globB_true.1 h.1).1
theorem UnderPath_i (p q : ByteArray) (w : World) (hg : GM w) (hp : p.size < 4294967281) (hq : q.size < 4294967281) :
    Calls Tryd.prog 34 #[.string p, .string q] w (RetV (.bool (underB p q)) w) := by
  have HL : Hid (underB p q = (pathB p && (pathB q && underL p.data.toList q.data.toList))) := rfl
  generalize underB p q = R at HL ⊢
  cases h1 : pathB p
  · have HQ : Hid (R = false) := by show R = false; rw [HL.out, h1]; rfl
    have HG := hide h1
    clear h1
    go_enter Tryd.func34, Tryd.ntmps34
    go_wp2_with fail
    refine (isPath_c p w hg hp).mono ?_
    rintro e w1 ⟨rfl, hb⟩
    rw [HG.out]
    go_wp2_with fail
    go_ret
    exact ⟨by rw [HQ.out]; rfl, hb⟩
  · cases h2 : pathB q
    · have HQ : Hid (R = false) := by show R = false; rw [HL.out, h1, h2]; rfl
      have HG := hide h1
      have HG2 := hide h2
      clear h1 h2
      go_enter Tryd.func34, Tryd.ntmps34
      go_wp2_with fail
      refine (isPath_c p w hg hp).mono ?_
      rintro e w1 ⟨rfl, hb⟩
      rw [HG.out]
      go_wp2_with fail
      refine (isPath_c q w1 (hg.up hb) hq).mono ?_
      rintro e w2 ⟨rfl, hb2⟩
      have hB := then_ hb hb2 hb.size
      rw [HG2.out]
      go_wp2_with fail
      go_ret
      exact ⟨by rw [HQ.out]; rfl, hB⟩
    · have HQ : Hid (R = underL p.data.toList q.data.toList) := by show R = _; rw [HL.out, h1, h2]; rfl
      have hps := path_size h1
      have hqs := path_size h2
      have HG := hide h1
      have HG2 := hide h2
      clear h1 h2
      go_enter Tryd.func34, Tryd.ntmps34
      go_wp2_with fail
      refine (isPath_c p w hg hp).mono ?_
      rintro e w1 ⟨rfl, hb⟩
      rw [HG.out]
      go_wp2_with fail
      refine (isPath_c q w1 (hg.up hb) hq).mono ?_
      rintro e w2 ⟨rfl, hb2⟩
      have hB := then_ hb hb2 hb.size
      rw [HG2.out]
      go_wp2_with fail
      refine (Tryd.strings_HasPrefix _ _ _).mono ?_
      rintro e w3 ⟨rfl, rfl⟩
      go_wp2_with fail
      go_ret
      exact ⟨congrArg (fun v => Ending.returned (.bool v)) (by rw [HQ.out]; unfold Lib.hasPrefix underL; simp), hB⟩
def coverB (a b : ByteArray) : Bool := globB b && coversB a b
theorem Covers_i (a b : ByteArray) (w : World) (hg : GM w) (ha : a.size < 4294967281) (hb : b.size < 4294967281) :
    Calls Tryd.prog 37 #[.string a, .string b] w (RetV (.bool (coverB a b)) w) := by
  have HL : Hid (coverB a b = (globB b && coversB a b)) := rfl
  generalize coverB a b = R at HL ⊢
  cases h1 : globB b
  · have HQ : Hid (R = false) := by show R = false; rw [HL.out, h1]; rfl
    have HG := hide h1
    clear h1
    go_enter Tryd.func37, Tryd.ntmps37
    go_wp2_with fail
    refine (isGlob_c b w hg hb).mono ?_
    rintro e w1 ⟨rfl, hb⟩
    rw [HG.out]
    go_wp2_with fail
    go_ret
    exact ⟨by rw [HQ.out]; rfl, hb⟩
  · have HQ : Hid (R = coversB a b) := by show R = _; rw [HL.out, h1]; rfl
    have HG := hide h1
    clear h1
    go_enter Tryd.func37, Tryd.ntmps37
    go_wp2_with fail
    refine (isGlob_c b w hg hb).mono ?_
    rintro e w1 ⟨rfl, hb1⟩
    rw [HG.out]
    go_wp2_with fail
    refine (covers_c a b w1 (hg.up hb1) ha hb).mono ?_
    rintro e w2 ⟨rfl, hb2⟩
    have hB := then_ hb1 hb2 hb1.size
    go_wp2_with fail
    go_ret
    exact ⟨by rw [HQ.out]; rfl, hB⟩
def cmpG (a b : ByteArray) : Int := if globB a && globB b then cmpA a b else -2
theorem CompareGlob_i (a b : ByteArray) (w : World) (hg : GM w) (ha : a.size < 4294967281) (hb : b.size < 4294967281) :
    Calls Tryd.prog 39 #[.string a, .string b] w (RetV (.int .i64 (cmpG a b)) w) := by
  have HL : Hid (cmpG a b = if globB a && globB b then cmpA a b else -2) := rfl
  generalize cmpG a b = R at HL ⊢
  cases h1 : globB a
  · have HQ : Hid (R = -2) := by show R = _; rw [HL.out, h1]; rfl
    have HG := hide h1
    clear h1
    go_enter Tryd.func39, Tryd.ntmps39
    go_wp2_with fail
    refine (isGlob_c a w hg ha).mono ?_
    rintro e w1 ⟨rfl, hb⟩
    rw [HG.out]
    go_wp2_with fail
    go_ret
    exact ⟨by rw [HQ.out]; rfl, hb⟩
  · cases h2 : globB b
    · have HQ : Hid (R = -2) := by show R = _; rw [HL.out, h1, h2]; rfl
      have HG := hide h1
      have HG2 := hide h2
      clear h1 h2
      go_enter Tryd.func39, Tryd.ntmps39
      go_wp2_with fail
      refine (isGlob_c a w hg ha).mono ?_
      rintro e w1 ⟨rfl, hb1⟩
      rw [HG.out]
      go_wp2_with fail
      refine (isGlob_c b w1 (hg.up hb1) hb).mono ?_
      rintro e w2 ⟨rfl, hb2⟩
      have hB := then_ hb1 hb2 hb1.size
      rw [HG2.out]
      go_wp2_with fail
      go_ret
      exact ⟨by rw [HQ.out]; rfl, hB⟩
    · have HQ : Hid (R = cmpA a b) := by show R = _; rw [HL.out, h1, h2]; rfl
      have HG := hide h1
      have HG2 := hide h2
      clear h1 h2
      go_enter Tryd.func39, Tryd.ntmps39
      go_wp2_with fail
      refine (isGlob_c a w hg ha).mono ?_
      rintro e w1 ⟨rfl, hb1⟩
      rw [HG.out]
      go_wp2_with fail
      refine (isGlob_c b w1 (hg.up hb1) hb).mono ?_
      rintro e w2 ⟨rfl, hb2⟩
      have hB := then_ hb1 hb2 hb1.size
      rw [HG2.out]
      go_wp2_with fail
      refine (compareGlob_c a b w2 (hg.up hB) ha hb).mono ?_
      rintro e w3 ⟨rfl, hb3⟩
      have hB3 := then_ hB hb3 hB.size
      go_wp2_with fail
      go_ret
      exact ⟨by rw [HQ.out]; rfl, hB3⟩
def matchB (g p : ByteArray) : Bool := pathB p && coversB g p
theorem MatchGlob_i (a b : ByteArray) (w : World) (hg : GM w) (ha : a.size < 4294967281) (hb : b.size < 4294967281) :
    Calls Tryd.prog 42 #[.string a, .string b] w (RetV (.bool (matchB a b)) w) := by
  have HL : Hid (matchB a b = (pathB b && coversB a b)) := rfl
  generalize matchB a b = R at HL ⊢
  cases h1 : pathB b
  · have HQ : Hid (R = false) := by show R = false; rw [HL.out, h1]; rfl
    have HG := hide h1
    clear h1
    go_enter Tryd.func42, Tryd.ntmps42
    go_wp2_with fail
    refine (isPath_c b w hg hb).mono ?_
    rintro e w1 ⟨rfl, hb⟩
    rw [HG.out]
    go_wp2_with fail
    go_ret
    exact ⟨by rw [HQ.out]; rfl, hb⟩
  · have HQ : Hid (R = coversB a b) := by show R = _; rw [HL.out, h1]; rfl
    have HG := hide h1
    clear h1
    go_enter Tryd.func42, Tryd.ntmps42
    go_wp2_with fail
    refine (isPath_c b w hg hb).mono ?_
    rintro e w1 ⟨rfl, hb1⟩
    rw [HG.out]
    go_wp2_with fail
    refine (covers_c a b w1 (hg.up hb1) ha hb).mono ?_
    rintro e w2 ⟨rfl, hb2⟩
    have hB := then_ hb1 hb2 hb1.size
    go_wp2_with fail
    go_ret
    exact ⟨by rw [HQ.out]; rfl, hB⟩
end Go.Proofs.YtlhhdpjnoainiaaDoor
