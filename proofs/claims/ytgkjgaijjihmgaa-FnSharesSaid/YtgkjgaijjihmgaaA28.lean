/- The values of shares: what the program's function gives; equality of bytes. -/
import Derived.Test.YtgkjgaijjihmgaaA26
import Derived.Laws.BytesArg
import Derived.Lib.LazyBuf
import Derived.Deep.RegionWith
namespace Go.Proofs.Ytgkjgaijjihmgaa
open Go.RowKit Gf
set_option maxRecDepth 100000
set_option maxHeartbeats 1000000
theorem made_row_cells' (w : World) (L : Nat) (hL : L ≤ 64) : (w.alloc (.cells (madeCells #[.int .u8 0] L) 5)).ownsRow w.heap.size 5 1 (.slice (some ⟨w.heap.size, 0, none⟩) L L) L (bC (List.replicate L 0)) := by
  have h := made_row_cells w 5 L (.int .u8 0) (by omega)
  have e : bC (List.replicate L 0) = List.replicate L (.int .u8 0) := by simp [bC]
  rw [e]
  exact h
theorem conv_bytes {w : World} {hi n : Nat} {A : Option Addr} {l : List UInt8} (hr : Rd w hi 1 A n (bC l)) (c : Nat) : (convert 22 9 (.slice A n c)).run Try.prog w = .ok (.string (⟨l.toArray⟩ : ByteArray)) w := by
  have hln := hr.bn
  rcases Nat.eq_zero_or_pos n with h0 | h0
  · subst h0
    have hl0 : l = [] := List.eq_nil_of_length_eq_zero hln
    subst hl0
    rw [run_convert_bytes_string w 22 9 5 _ 0 c Try.underlying22 Try.underlying5 Try.underlying9]
    cases A <;> simp [Conv.bytesToString, loadCells]
    all_goals rfl
  · obtain ⟨b, off, rfl, _, hc⟩ := hr.2.2 h0
    have h := run_convert_bytes_arg (P := Try.prog) w 22 5 Try.underlying22 Try.underlying5 b off n c (l.map fun x => (x.toNat : Int)) (by simpa using hln) (fun i hi => by
      rw [hc i _ (bC_get (by omega))]
      simp [List.getD, List.getElem?_map, List.getElem?_eq_getElem (show i < l.length by omega)]) 9 Try.underlying9
    rw [h]
    congr 2
    exact Lib.Lz.strOfNums_map l
theorem bytesEqual_c (A A' : Option Addr) (n n' c c' : Nat) (l l' : List UInt8) (w : World) (hi hi' : Nat) (hr : Rd w hi 1 A n (bC l)) (hr' : Rd w hi' 1 A' n' (bC l')) :
    Calls Try.prog 47 #[.slice A n c, .slice A' n' c'] w (Pure (.bool (l == l')) w) := by
  have h1 := conv_bytes hr c
  have h2 := conv_bytes hr' c'
  go_enter Try.func47, Try.ntmps47
  go_wp2_with fail
  go_ret
  exact ⟨rfl, rfl⟩
theorem gInvN (a : Nat) (h : a < 256) (w : World) : Calls Try.prog 71 #[.int .i64 (a : Int)] w (Pure (.int .i64 ((gi a : Nat) : Int)) w) := gInv_c (a : Int) w (by omega) (by omega)
theorem gMulN (a b : Nat) (ha : a < 256) (hb : b < 256) (w : World) : Calls Try.prog 43 #[.int .i64 (a : Int), .int .i64 (b : Int)] w (Pure (.int .i64 ((gm a b : Nat) : Int)) w) := gMul_c (a : Int) (b : Int) w (by omega) (by omega) (by omega) (by omega)
theorem accB_succ (ss : List Sh) (K x L i p : Nat) (h : p < (accB ss K x L i).length) (h' : p < (accB ss K x L (i + 1)).length) : (accB ss K x L (i + 1))[p].toNat = (accB ss K x L i)[p].toNat ^^^ gm (fac ss x i K) (dN ss i p) := by
  rw [accB_get, accB_get]
  rfl
theorem valuesAt_c (A : Option Addr) (n K c : Nat) (ss : List Sh) (L x : Nat) (w : World) (hr : ShR w w.heap.size A n ss) (hK1 : 1 ≤ K) (hK : K ≤ n) (hn12 : n ≤ 12) (hok : Ok ss L) (hx : x < 256) :
    Calls Try.prog 46 #[.slice A K c, .int .i64 x] w (RetRow 5 1 L (bC (accB ss K x L K)) w) := by
  have hln := hide hr.1
  have HOK := hide hok
  have hL := hok.L
  have hX : Hid (∀ j, j < n → xN ss j < 256) := fun j hj => (hok.n (by have := hln.out; omega)).2.1
  have hmk := run_make_row' (P := Try.prog) 22 5 (.int .u8 0) 1 Try.underlying22 info5 rfl .i64 .i64 L (by omega) (by omega)
  obtain ⟨b, off, rfl, hblt, hl, A0, c0, _, hd0, _⟩ := hr.at_ (k := 0) (by omega)
  have hlL := HOK.out.l 0 hl
  simp only [Nat.zero_mul, Nat.add_zero, hlL] at hd0
  have hK0 : (0 : Int) < (K : Int) := by omega
  clear hok hlL
  go_enter Try.func46, Try.ntmps46
  go_wp2_with fail
  clear hmk hd0
  go_loopw [6, 7, 8, 9, 10, 11, 12, 21, 28, 53] (fun _ _ _ _ _ _ _ iv _ _ wr => ∃ i : Nat, i ≤ K ∧ iv = .int .i64 i ∧ wr.ownsRow w.heap.size 5 1 (.slice (some ⟨w.heap.size, 0, none⟩) L L) L (bC (accB ss K x L i)) ∧ Below w.heap.size w wr) (fun _ _ _ _ _ _ _ iv _ _ _ => K - (intOf iv).toNat)
  case atStart => exact ⟨0, by omega, rfl, by rw [accB_zero]; exact made_row_cells' w L hL, (by repeat (first | with_reducible exact Below.refl _ _ | with_reducible assumption | refine Below.alloc ?_ (by first | omega | (simp; done) | (simp; omega)) _ | refine Below.setCell ?_ (by first | omega | (simp; done) | (simp; omega)) _ | refine Below.drew ?_ | refine below_drewN ?_ _ | exact Below.refl _ _ | assumption))⟩
  case round =>
    obtain ⟨i, hi, rfl, hown, hB⟩ := hrel
    obtain ⟨wo, rfl⟩ : ∃ wo : World, wo = wr := ⟨_, rfl⟩
    by_cases hiK : i < K
    · have hr1 := hr.up hB
      obtain ⟨b1, off1, e, hb1, hl1, A1, c1, hx1, hd1, hrd1⟩ := hr.at_ (k := i) (by omega)
      injection e with e
      injection e with e1 e2
      subst e1; subst e2
      have hl1L := HOK.out.l i hl1
      rw [hl1L] at hd1 hrd1
      rw [(HOK.out.n hl1).1] at hx1
      replace hx1 := cell_old hx1 hB hb1
      replace hd1 := cell_old hd1 hB hb1
      have hB0 := hB.size
      have HO := hide hown
      have HB := hide hB
      have HR := hide hr1
      have HD := hide hrd1
      have HL1 := hide hl1L
      clear hown hB hr1 hrd1 hl1L
      go_wp2_with fail
      have N := Blk.new wo 31 #[.int .i64 ((xN ss i : Nat) : Int), .slice A1 L c1]
      have hbq : Below wo.heap.size wo (wo.alloc (.cells #[.int .i64 ((xN ss i : Nat) : Int), .slice A1 L c1] 31)) := (by repeat (first | with_reducible exact Below.refl _ _ | with_reducible assumption | refine Below.alloc ?_ (by first | omega | (simp; done) | (simp; omega)) _ | refine Below.setCell ?_ (by first | omega | (simp; done) | (simp; omega)) _ | refine Below.drew ?_ | refine below_drewN ?_ _ | exact Below.refl _ _ | assumption))
      have hzq : (wo.alloc (.cells #[.int .i64 ((xN ss i : Nat) : Int), .slice A1 L c1] 31)).heap.size = wo.heap.size + 1 := by simp
      generalize wo.alloc (.cells #[.int .i64 ((xN ss i : Nat) : Int), .slice A1 L c1] 31) = wq at N hbq hzq ⊢
      have hzq1 : wo.heap.size < wq.heap.size := by omega
      have hBq := HB.out.trans (hbq.mono HB.out.size)
      have HRq := hide (HR.out.up hbq)
      have HOq := hide (own_keep HO.out (fun a ha => hbq.block a.block (by injection ha with ha; subst ha; exact own_lt HO.out)))
      have HZ := hide hzq
      have HBQ := hide hBq
      have HN := hide N
      clear hx1 hd1 hb1 N hbq hzq hBq
      go_loopw [8, 9, 10, 28] (fun fv _ _ kv wr => ∃ k : Nat, k ≤ K ∧ kv = .int .i64 k ∧ fv = .int .i64 ((fac ss x i k : Nat) : Int) ∧ Below wq.heap.size wq wr) (fun _ _ _ kv _ => K - (intOf kv).toNat)
      case atStart => exact ⟨0, by omega, rfl, rfl, Below.refl _ _⟩
      case round =>
        obtain ⟨k, hk, rfl, rfl, hB⟩ := hrel
        have hfl := fac_lt ss x i k
        have qB := fun j => (HN.out.below hB hzq1).cell j
        have hzr : wo.heap.size < wr.heap.size := Nat.lt_of_lt_of_le hzq1 hB.size
        by_cases hkK : k < K
        · have hr2 := HRq.out.up hB
          obtain ⟨b2, off2, e, hb2, hl2, A2, c2, hx2, hd2, _⟩ := hr2.at_ (k := k) (by omega)
          injection e with e
          injection e with e1 e2
          subst e1; subst e2
          rw [(HOK.out.n hl2).1] at hx2
          have hk256 := hX.out k (by omega)
          have hi256 := hX.out i (by omega)
          clear hr2
          by_cases hki : k = i
          · subst hki
            have HT : Hid (fac ss x k (k + 1) = fac ss x k k) := by show fac ss x k (k + 1) = _; rw [fac, if_pos rfl]
            go_wp2_with fail
            exact ⟨⟨k + 1, by omega, by go_num, by rw [HT.out], hB.alloc hB.size _⟩, by simp [intOf]; omega⟩
          · have hne : ((k : Int) != (i : Int)) = true := by simp; omega
            have HT : Hid (fac ss x i (k + 1) = gm (fac ss x i k) (gm (x ^^^ xN ss k) (gi (xN ss i ^^^ xN ss k)))) := by
              show fac ss x i (k + 1) = _
              rw [fac, if_neg hki]
            have e1 := i64_xor_nat x (xN ss k) (by omega) (by omega)
            have e2 := i64_xor_nat (xN ss i) (xN ss k) (by omega) (by omega)
            have hxk := xor_lt hx hk256
            have hik := xor_lt hi256 hk256
            have hgi : gi (xN ss i ^^^ xN ss k) < 256 := gi_lt
            have hgm : gm (x ^^^ xN ss k) (gi (xN ss i ^^^ xN ss k)) < 256 := gm_lt _ hxk
            go_wp2_with fail
            go_quiet ((first | (go_at_call 71; exact quiet_pure' (gInvN _ (by assumption) _)) | (go_at_call 43; exact quiet_pure' (gMulN _ _ (by assumption) (by assumption) _))))
            clear e1 e2
            go_wp2_with fail
            exact ⟨⟨k + 1, by omega, by go_num, by rw [HT.out], below_drewN (hB.alloc hB.size _) _⟩, by simp [intOf]; omega⟩
        · have hkE : k = K := by omega
          subst hkE
          have hOr := own_keep HOq.out (fun a ha => hB.block a.block (by injection ha with ha; subst ha; exact own_lt HOq.out))
          have HO2 := hide hOr
          have HB2 := hide (then_ HBQ.out hB HBQ.out.size)
          clear hOr
          obtain ⟨wp, rfl⟩ : ∃ wp : World, wp = wr := ⟨_, rfl⟩
          go_wp2_with fail
          clear qB
          go_loopw [11, 12, 53] (fun _ _ pv wr => ∃ p : Nat, p ≤ L ∧ pv = .int .i64 p ∧ wr.ownsRow w.heap.size 5 1 (.slice (some ⟨w.heap.size, 0, none⟩) L L) L (bC (over (accB ss k x L (i + 1)) (accB ss k x L i) p)) ∧ Chg w.heap.size (w.heap.size + 1) wp wr) (fun _ _ pv _ => L - (intOf pv).toNat)
          case atStart => exact ⟨0, by omega, rfl, by rw [over_zero]; exact HO2.out, Chg.refl _ _ _⟩
          case round =>
            obtain ⟨p, hp, rfl, hown, hch⟩ := hrel
            by_cases hpL : p < L
            · have hBr := HB2.out.trans hch.below
              obtain ⟨bd, offd, rfl, hbd, hl2, hcd⟩ := (HD.out.below hBr (Nat.le_refl _)).byte hpL
              have hdN := dN_eq hl1 (p := p) (by rw [HL1.out]; exact hpL)
              have hd256 := dN_lt ss i p
              rw [← hdN] at hcd
              have hfl := fac_lt ss x i k
              have hg256 : gm (fac ss x i k) (dN ss i p) < 256 := gm_lt _ hfl
              have hw : IntKind.i64.wrap ((dN ss i p : Nat) : Int) = ((dN ss i p : Nat) : Int) := by rw [IntKind.wrap_i64]; omega
              have hw8 : IntKind.u8.wrap ((gm (fac ss x i k) (dN ss i p) : Nat) : Int) = ((gm (fac ss x i k) (dN ss i p) : Nat) : Int) := by rw [IntKind.wrap_u8']; omega
              have hp1 : p < (accB ss k x L i).length := by rw [accB_length]; exact hpL
              have hp2 : p < (accB ss k x L (i + 1)).length := by rw [accB_length]; exact hpL
              have hxx : bits .xor .u8 ((accB ss k x L i)[p].toNat : Int) ((gm (fac ss x i k) (dN ss i p) : Nat) : Int) = ((accB ss k x L (i + 1))[p].toNat : Int) := by
                have h1 := (accB ss k x L i)[p].toNat_lt
                have h2 := xor_lt h1 hg256
                rw [accB_succ ss k x L i p hp1 hp2]
                have := u8_xor_nat (accB ss k x L i)[p].toNat (gm (fac ss x i k) (dN ss i p)) h1 hg256
                exact this
              have hle : (accB ss k x L (i + 1)).length = (accB ss k x L i).length := by rw [accB_length, accB_length]
              have hg := over_get hle (j := p) hp1
              have hs := over_set hle (j := p) hp2
              have hc1 := hown.cellAt p (by omega)
              have hgg : (bC (over (accB ss k x L (i + 1)) (accB ss k x L i) p))[p]? = some (.int .u8 ((accB ss k x L i)[p].toNat : Int)) := by
                simp only [bC, List.getElem?_map, hg]; rfl
              rw [hgg] at hc1
              have hf1 := hown.frozenAt p
              have HO := hide hown
              have HCH := hide hch
              have HS := hide hs
              have p0 : (0 : Int) ≤ (p : Int) := by omega
              have p1 : (p : Int) < (L : Int) := by omega
              clear hown hch hg hs hgg hle hdN hl2 hBr
              go_wp2_with fail
              go_region_with (first | (go_at_call 43; refine (gMulN _ _ (by assumption) (by assumption) _).mono ?_; rintro e w' ⟨rfl, rfl⟩))
              all_goals
                go_wp2_with fail
                refine ⟨⟨p + 1, by omega, by go_num, ?_, (HCH.out.setCell (p := ⟨w.heap.size, p, none⟩) (Nat.le_refl _) (Nat.lt_succ_self _) _).drewN 1⟩, by simp [intOf]; omega⟩
                have := (HO.out.stored p (.int .u8 ((accB ss k x L (i + 1))[p].toNat : Int))).1
                rw [← bC_set, HS.out] at this
                exact this
            · have hpE : p = L := by omega
              subst hpE
              have HE : Hid (over (accB ss k x p (i + 1)) (accB ss k x p i) p = accB ss k x p (i + 1)) := by
                have := over_all (m := accB ss k x p (i + 1)) (l := accB ss k x p i) (by rw [accB_length, accB_length])
                rw [accB_length] at this
                exact this
              rw [HE.out] at hown
              have HO := hide hown
              have hBr := HB2.out.trans hch.below
              clear hown hch
              go_wp2_with fail
              exact ⟨⟨i + 1, by omega, by go_num, HO.out, hBr⟩, by simp [intOf]; omega⟩
    · have hiE : i = K := by omega
      subst hiE
      have HO := hide hown
      clear hown
      go_wp2_with fail
      go_ret
      exact ⟨_, _, rfl, Nat.le_refl _, HO.out, hB⟩
end Go.Proofs.Ytgkjgaijjihmgaa
