/- What the reference's functions on parts and segments of texts give; each contract says for which arguments. -/
import Derived.Test.YtmjmjloiblbhcaaDoorB4a
namespace Go.Proofs.YtmjmjloiblbhcaaDoor
open Go.RowKit
set_option maxRecDepth 100000
set_option maxHeartbeats 400000
theorem info_s : (Tryd.prog.info? 9).map (fun i => (i.zero, i.size, i.bytes)) = some (some (.string ⟨#[]⟩), 1, 16) := by kernel_rfl
/-- the state of the reference's parting -/
def PInv (c : UInt8) (s : ByteArray) (k a : Nat) (out : List ByteArray) : Prop :=
  (k ≤ s.size ∧ a ≤ k ∧ out.length ≤ k ∧ partsL c (s.data.toList.take k) = out.map (fun x => x.data.toList) ++ [(s.data.toList.take k).drop a]) ∨ (k = s.size + 1 ∧ out = prt c s)
theorem PInv.start (c : UInt8) (s : ByteArray) : PInv c s 0 0 [] := .inl ⟨by omega, by omega, by simp, by simp [partsL]⟩
theorem PInv.le {c : UInt8} {s : ByteArray} {k a : Nat} {out : List ByteArray} (h : PInv c s k a out) (hk : k ≤ s.size) : a ≤ k ∧ out.length ≤ k := by
  rcases h with h | h
  · exact ⟨h.2.1, h.2.2.1⟩
  · omega
theorem size_l (s : ByteArray) : s.data.toList.length = s.size := by simp
theorem ext_l (s : ByteArray) (a k : Nat) : (s.extract a k).data.toList = (s.data.toList.take k).drop a := by
  rw [ByteArray.data_extract, Array.toList_extract]
  simp only [List.extract]
  rw [List.drop_take]
theorem PInv.last {c : UInt8} {s : ByteArray} {a : Nat} {out : List ByteArray} (h : PInv c s s.size a out) : PInv c s (s.size + 1) (s.size + 1) (out ++ [s.extract a s.size]) := by
  rcases h with ⟨h1, h2, h3, h4⟩ | h
  · right
    refine ⟨rfl, ?_⟩
    rw [List.take_of_length_le (by rw [size_l]; exact Nat.le_refl _)] at h4
    rw [prt, h4]
    rw [List.map_append, map_mk]
    congr 1
    simp only [List.map_cons, List.map_nil]
    congr 1
    apply ext_data
    rw [ext_l, List.take_of_length_le (by rw [size_l]; exact Nat.le_refl _)]
  · omega
theorem byte_l (s : ByteArray) (k : Nat) (hk : k < s.size) : s[k] = s.data.toList[k]'(by rw [size_l]; exact hk) := rfl
theorem PInv.hit {c : UInt8} {s : ByteArray} {k a : Nat} {out : List ByteArray} (h : PInv c s k a out) (hk : k < s.size) (hc : s[k] = c) : PInv c s (k + 1) (k + 1) (out ++ [s.extract a k]) := by
  rcases h with ⟨h1, h2, h3, h4⟩ | h
  · left
    refine ⟨by omega, by omega, by simp; omega, ?_⟩
    have := (partsL_take_snoc c s.data.toList k (by rw [size_l]; exact hk) a _ h2 h4).1 hc
    rw [this, List.map_append]
    congr 1
    simp only [List.map_cons, List.map_nil]
    rw [ext_l]
  · omega
theorem PInv.miss {c : UInt8} {s : ByteArray} {k a : Nat} {out : List ByteArray} (h : PInv c s k a out) (hk : k < s.size) (hc : s[k] ≠ c) : PInv c s (k + 1) a out := by
  rcases h with ⟨h1, h2, h3, h4⟩ | h
  · left
    exact ⟨by omega, by omega, by omega, (partsL_take_snoc c s.data.toList k (by rw [size_l]; exact hk) a _ h2 h4).2 hc⟩
  · omega
theorem PInv.end_ {c : UInt8} {s : ByteArray} {k a : Nat} {out : List ByteArray} (h : PInv c s k a out) (hk : ¬ k ≤ s.size) : out = prt c s := by
  rcases h with h | h
  · omega
  · exact h.2
theorem PInv.bd {c : UInt8} {s : ByteArray} {k a : Nat} {out : List ByteArray} (h : PInv c s k a out) : k ≤ s.size + 1 := by
  rcases h with h | h <;> omega
theorem sC_snoc (l : List ByteArray) (x : ByteArray) : sC l ++ [.string x] = sC (l ++ [x]) := by simp [sC]
theorem l01Parts_c (s : ByteArray) (c : UInt8) (w : World) (hs : s.size < 4294967281) :
    Calls Tryd.prog 58 #[.string s, .int .u8 (c.toNat : Int)] w (RetRow 9 1 (prt c s).length (sC (prt c s)) w) := by
  go_enter Tryd.func58, Tryd.ntmps58
  go_wp2_with fail
  go_loopw [5, 6, 7] (fun v av i wr => ∃ (k a : Nat) (out : List ByteArray) (A' : Option Addr) (c' : Nat), i = .int .i64 ((k : Nat) : Int) ∧ av = .int .i64 ((a : Nat) : Int) ∧ v = .slice A' out.length c' ∧ out.length ≤ c' ∧ wr.ownsRow w.heap.size 9 1 (.slice A' out.length c') out.length (sC out) ∧ Below w.heap.size w wr ∧ PInv c s k a out) (fun _ _ i _ => s.size + 1 - (intOf i).toNat)
  case atStart => exact ⟨0, 0, [], _, _, rfl, rfl, rfl, Nat.le_refl _, World.ownsRow_made w #[] 0 (Nat.le_refl _) (by omega) rfl, (Below.refl _ _).alloc (Nat.le_refl _) _, PInv.start c s⟩
  case round =>
    obtain ⟨k, a, out, A', c', rfl, rfl, rfl, hkc, hown, hb, hP⟩ := hrel
    have hbd := hP.bd
    have HP := hide hP
    have HB := hide hb
    have HO := hide hown
    have hsz := hb.size
    clear hb hown
    by_cases hlt : k ≤ s.size
    · obtain ⟨ha, ho⟩ := hP.le hlt
      clear hP
      by_cases heq : k = s.size
      · subst heq
        go_wp2_with (at_builtin; refine wpList_push wr rfl (.tmp 26) (.tmp 31) 58 rfl w.heap.size 9 _ 1 16 Tryd.underlying58 info_s rfl (by omega) A' out.length c' _ [.string (s.extract a s.size)] rfl HO.out rfl rfl (by simp [Value.oneCell']) (by omega) (by omega) hsz ?_; intro A'' c'' w1 hc1 hown1 hg1 _)
        rw [sC_snoc] at hown1
        exact ⟨⟨s.size + 1, s.size + 1, out ++ [s.extract a s.size], A'', c'', by go_num, by go_num, by simp, by simpa using hc1, by simpa using hown1, HB.out.trans (grown_below HO.out hg1 hsz), HP.out.last⟩, by simp [intOf]⟩
      · have hlt2 : k < s.size := by omega
        have hne : ((k : Int) == (s.size : Int)) = false := beq_eq_false_iff_ne.2 (by omega)
        by_cases hbc : s[k] = c
        · have hbe : ((s[k].toNat : Int) == (c.toNat : Int)) = true := by rw [hbc]; simp
          have HN := hide (HP.out.hit hlt2 hbc)
          clear hbc heq
          go_wp2_with (at_builtin; refine wpList_push wr rfl (.tmp 26) (.tmp 31) 58 rfl w.heap.size 9 _ 1 16 Tryd.underlying58 info_s rfl (by omega) A' out.length c' _ [.string (s.extract a k)] rfl HO.out rfl rfl (by simp [Value.oneCell']) (by omega) (by omega) hsz ?_; intro A'' c'' w1 hc1 hown1 hg1 _)
          rw [sC_snoc] at hown1
          exact ⟨⟨k + 1, k + 1, out ++ [s.extract a k], A'', c'', by go_num, by go_num, by simp, by simpa using hc1, by simpa using hown1, HB.out.trans (grown_below HO.out hg1 hsz), HN.out⟩, by simp [intOf]; omega⟩
        · have hbe : ((s[k].toNat : Int) == (c.toNat : Int)) = false := beq_eq_false_iff_ne.2 fun e => hbc (UInt8.toNat_inj.1 (by omega))
          have HN := hide (HP.out.miss hlt2 hbc)
          clear hbc heq
          go_wp2_with fail
          exact ⟨⟨k + 1, a, out, A', c', by go_num, rfl, rfl, hkc, HO.out, HB.out, HN.out⟩, by simp [intOf]; omega⟩
    · have HE := hide (hP.end_ hlt)
      clear hP
      go_wp2_with fail
      go_ret
      rw [← HE.out]
      exact ⟨_, _, rfl, hkc, HO.out, HB.out⟩
end Go.Proofs.YtmjmjloiblbhcaaDoor
