/- Boxes: what the program's and the reference's masks give. -/
import Derived.Test.YtmebpmaldcogbaaA10
import Derived.Test.YtmebpmaldcogbaaMem7
import Derived.Deep.RegionHeld3
namespace Go.Proofs.Ytmebpmaldcogbaa
open Go.RowKit Gf
set_option maxRecDepth 100000
set_option maxHeartbeats 400000
def xB (key nonce : Int) (l : List UInt8) : List UInt8 := List.zipWith (fun x y => x ^^^ y) l (smB key nonce l.length)
theorem xB_length (key nonce : Int) (l : List UInt8) : (xB key nonce l).length = l.length := by simp [xB, smB_length]
theorem xB_get (key nonce : Int) (l : List UInt8) (k : Nat) (h : k < (xB key nonce l).length) : (xB key nonce l)[k] = l[k]'(by rw [xB_length] at h; exact h) ^^^ (smB key nonce l.length)[k]'(by rw [smB_length]; rw [xB_length] at h; exact h) := by simp [xB]
theorem crossed_c (key nonce : Int) (A : Option Addr) (n c : Nat) (l : List UInt8) (w : World) (h0 : 0 ≤ key) (h1 : key ≤ 1099511627776) (h2 : 0 ≤ nonce) (h3 : nonce ≤ 1099511627776) (hn : n ≤ 2000) (hr : Rd w w.heap.size 1 A n (bC l)) :
    Calls Try.prog 155 #[.int .i64 key, .int .i64 nonce, .slice A n c] w (RetRow 5 1 n (bC (xB key nonce l)) w) := by
  have hln := hr.bn
  subst hln
  have hxl := hide (xB_length key nonce l)
  have hsl := hide (smB_length key nonce l.length)
  go_enter Try.func155, Try.ntmps155
  go_wp2_with fail
  refine (stream_c key nonce l.length _ h0 h1 h2 h3 hn).mono ?_
  rintro e w1 ⟨A1, c1, rfl, hc1, ho1, hb1⟩
  have hr1 := hr.up hb1
  go_wp2_with fail
  go_loopw [8, 9, 17] (fun _ _ i wr => ∃ k : Nat, k ≤ l.length ∧ i = .int .i64 k ∧ wr.ownsRow w.heap.size 5 1 (.slice A1 l.length c1) l.length (bC (over (xB key nonce l) (smB key nonce l.length) k)) ∧ Below w.heap.size w wr) (fun _ _ i _ => l.length - (intOf i).toNat)
  case atStart => exact ⟨0, by omega, rfl, by rw [over_zero]; exact ho1, hb1⟩
  case round =>
    obtain ⟨k, hk, rfl, hown, hb⟩ := hrel
    have hlen : (xB key nonce l).length = (smB key nonce l.length).length := by rw [xB_length, smB_length]
    by_cases hlt : k < l.length
    · have hl : k < (smB key nonce l.length).length := by rw [smB_length]; exact hlt
      have hrk := hr.below hb (Nat.le_refl _)
      obtain ⟨b, off, rfl, hblt, hl2, hcb⟩ := hrk.byte hlt
      have hx := xB_get key nonce l k (by rw [xB_length]; exact hlt)
      have ho2 := over_set hlen (j := k) (by rw [xB_length]; exact hlt)
      have hg := over_get hlen (j := k) hl
      obtain ⟨cc, hA, _⟩ : ∃ b2, A1 = some ⟨b2, 0, none⟩ ∧ True := by
        rcases hown.2 with ⟨hv, h0⟩ | ⟨g, cap, cur, hv, _⟩
        · omega
        · injection hv with hv
          exact ⟨g, hv, trivial⟩
      subst hA
      have hc1 := hown.cellAt k (by omega)
      have hgg : (bC (over (xB key nonce l) (smB key nonce l.length) k))[k]? = some (.int .u8 ((smB key nonce l.length)[k].toNat : Int)) := by
        simp only [bC, List.getElem?_map, hg]; rfl
      rw [hgg] at hc1
      have hf1 := hown.frozenAt k
      have HO := hide hown
      have HB := hide hb
      have HX := hide hx
      have HS := hide ho2
      have HL := hide hlen
      clear hown hb hx ho2 hg hgg ho1 hb1 hr1 hlen
      go_wp2
      refine ⟨⟨k + 1, by omega, by go_num, ?_, HB.out.setCell (by
        obtain ⟨_, _, h⟩ := own_type HO.out
        exact h) _⟩, by simp [intOf]; omega⟩
      have := (HO.out.stored k (.int .u8 ((xB key nonce l)[k]'(by rw [hxl.out]; exact hlt)).toNat)).1
      rw [← bC_set, HS.out] at this
      rw [u8x, UInt8.xor_comm, ← HX.out]
      exact this
    · have HK : Hid (over (xB key nonce l) (smB key nonce l.length) k = xB key nonce l) := by
        have := over_all hlen
        rw [xB_length] at this
        rw [show k = l.length from by omega]
        exact this
      rw [HK.out] at hown
      have HO := hide hown
      have HB := hide hb
      clear hown hb hlen ho1 hb1 hr1
      go_wp2
      go_ret
      exact ⟨_, _, rfl, hc1, HO.out, HB.out⟩
theorem l04Mask_c (key nonce : Int) (A : Option Addr) (n c : Nat) (l : List UInt8) (w : World) (h0 : 0 ≤ key) (h1 : key ≤ 1099511627776) (h2 : 0 ≤ nonce) (h3 : nonce ≤ 1099511627776) (hn : n ≤ 2000) (hr : Rd w w.heap.size 1 A n (bC l)) :
    Calls Try.prog 139 #[.int .i64 key, .int .i64 nonce, .slice A n c] w (RetRow 5 1 n (bC (xB key nonce l)) w) := by
  have hln := hr.bn
  subst hln
  have hsm : sm_ key nonce l.length = smB key nonce l.length := by
    unfold sm_ smOk
    rw [inB_true.2 ⟨h0, h1⟩, inB_true.2 ⟨h2, h3⟩, inB_true.2 ⟨by omega, by omega⟩]
    rfl
  have CS : Hid (∀ w, Calls Try.prog 56 #[.int .i64 key, .int .i64 nonce, .int .i64 l.length] w (RetRow 5 1 l.length (bC (smB key nonce l.length)) w)) := by
    intro w
    have := Stream_s key nonce l.length w
    rw [hsm, smB_length] at this
    exact this
  have hxl := hide (xB_length key nonce l)
  have hsl := hide (smB_length key nonce l.length)
  clear hsm
  go_enter Try.func139, Try.ntmps139
  go_wp2_with fail
  refine (CS.out _).mono ?_
  rintro e w1 ⟨A1, c1, rfl, hc1, ho1, hb1⟩
  have hB : Below w.heap.size w w1 := then_ (by repeat (first | with_reducible exact Below.refl _ _ | with_reducible assumption | refine Below.alloc ?_ (by first | omega | (simp; done) | (simp; omega)) _ | refine Below.setCell ?_ (by first | omega | (simp; done) | (simp; omega)) _ | refine Below.drew ?_ | refine below_drewN ?_ _ | exact Below.refl _ _ | assumption)) hb1 (by first | omega | (simp; done) | (simp; omega))
  have hz1 : w.heap.size + 1 ≤ w1.heap.size := by have := hb1.size; simp at this; omega
  have r1 := own_rd ho1
  have L := Blk.new w 5 #[]
  have q0 : w1.ownsRow w.heap.size 5 1 (.slice (some ⟨w.heap.size, 0, none⟩) 0 0) 0 [] := own_keep (World.ownsRow_made w #[] 0 (Nat.le_refl _) (by omega) rfl) (fun a ha => by
    injection ha with ha
    subst ha
    exact hb1.block _ (by simp))
  have hlo : Hid (∀ a, A1 = some a → w.heap.size + 1 ≤ a.block) := by
    intro a ha
    subst ha
    obtain ⟨_, _, h⟩ := own_type ho1
    simpa using h
  clear ho1 L
  have hr1 := hr.up hB
  go_wp2_with fail
  go_loopw [7, 9] (fun v i wr => ∃ k A' c', k ≤ l.length ∧ i = .int .i64 ((k : Nat) : Int) ∧ v = .slice A' k c' ∧ k ≤ c' ∧ wr.ownsRow w.heap.size 5 1 (.slice A' k c') k (bC ((xB key nonce l).take k)) ∧ Below w.heap.size w wr ∧ Rd wr w1.heap.size 1 A1 l.length (bC (smB key nonce l.length)) ∧ w1.heap.size ≤ wr.heap.size ∧ ∀ a, A' = some a → a.block = w.heap.size ∨ w1.heap.size ≤ a.block) (fun _ i _ => l.length - (intOf i).toNat)
  case atStart => exact ⟨0, _, _, by omega, rfl, rfl, Nat.le_refl _, q0, hB, r1, Nat.le_refl _, fun a ha => .inl (by injection ha with ha; rw [← ha])⟩
  case round =>
    obtain ⟨k, A', c', hk, rfl, rfl, hkc, hown, hb, hrs, hs1, had⟩ := hrel
    by_cases hlt : k < l.length
    · have hl : k < (xB key nonce l).length := by rw [xB_length]; exact hlt
      have hrk := hr.below hb (Nat.le_refl _)
      obtain ⟨b, off, rfl, hblt, hl2, hcb⟩ := hrk.byte hlt
      obtain ⟨b', off', hA', hblt', hl2', hcb'⟩ := hrs.byte hlt
      subst hA'
      have hsz := hb.size
      have hlb : w.heap.size + 1 ≤ b' := hlo.out _ rfl
      have HA := hide had
      have HO := hide hown
      have HB := hide hb
      have HS := hide hrs
      have HR := hide hrk
      have HX := hide (xB_get key nonce l k hl)
      have hk0 : (0 : Int) ≤ (k : Int) := by omega
      have hk1 : (k : Int) < (l.length : Int) := by omega
      clear hown hb hrs hrk r1 hr1 had
      go_wp2_with fail
      go_region_held3 (fun w' => w'.cell? ⟨b, off + k, none⟩ = some (.int .u8 (l[k].toNat : Int)) ∧ w'.cell? ⟨b', off' + k, none⟩ = some (.int .u8 ((smB key nonce l.length)[k].toNat : Int))) (first | go_keep | exact ⟨(far_cell hg2 b (off + k) (by show b < wr.heap.size; omega) (fun a ha => by have := HA.out a ha; omega)).trans hcb, (far_cell hg2 b' (off' + k) (by show b' < wr.heap.size; omega) (fun a ha => by have := HA.out a ha; omega)).trans hcb'⟩) ((refine step_push wr.drew (by rfl) (.tmp 22) (.tmp 32) 25 (by rfl) w.heap.size 5 (.int .u8 0) 1 1 Try.underlying25 info5 rfl (by omega) A' k c' _ [_] (by rfl) HO.out (by rfl) (by rfl) (by simp [Value.oneCell']) (by omega) (by omega) hsz ?_; intro A'' c'' w2 hc2 hown2 hg2 had2))
      go_wp2_with fail
      rw [u8x, ← HX.out, bC_succ hl] at hown2
      have hB2 : Below w.heap.size w w2 := HB.out.drew.trans (grown_below HO.out hg2 hsz)
      have hR2 := HS.out.drew.keepb (w' := w2) (far_block hg2 b' (by show b' < wr.heap.size; omega) (fun a ha => by have := HA.out a ha; omega))
      exact ⟨⟨k + 1, A'', c'', by omega, by go_num, rfl, hc2, hown2, hB2, hR2, Nat.le_trans hs1 hg2.size, fun a ha => by
        rcases had2 a ha with ⟨a', ha', e⟩ | h
        · rw [e]; exact HA.out a' ha'
        · have : wr.heap.size < a.block := h
          omega⟩, by simp [intOf]; omega⟩
    · have HE : Hid ((xB key nonce l).take k = xB key nonce l) := List.take_of_length_le (by rw [xB_length]; omega)
      have HK : Hid (k = l.length) := by show k = l.length; omega
      rw [HE.out, HK.out] at hown
      have HB := hide hb
      have HO := hide hown
      clear hb hown hrs had r1 hr1
      go_wp2
      go_ret
      exact ⟨_, _, by rw [show k = l.length from HK.out]; rfl, by omega, HO.out, HB.out⟩
end Go.Proofs.Ytmebpmaldcogbaa
