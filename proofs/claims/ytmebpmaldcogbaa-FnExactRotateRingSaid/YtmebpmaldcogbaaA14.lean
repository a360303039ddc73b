/- Key rings: rotation: what the program's and the reference's functions give. -/
import Derived.Test.YtmebpmaldcogbaaA12
import Derived.Test.YtmebpmaldcogbaaMem9
import Derived.Deep.DeepCutAuto
namespace Go.Proofs.Ytmebpmaldcogbaa
open Go.RowKit Gf
set_option maxRecDepth 100000
set_option maxHeartbeats 400000
def roN (x : Int) (l : List Int) (key : Int) : Int × List Int := if 12 ≤ l.length then (x + 1, (l ++ [key]).drop 1) else (x, l ++ [key])
def roOk (x : Int) (l : List Int) (key : Int) : Bool := rgOk x l && rgOk (roN x l key).1 (roN x l key).2
def roX (x : Int) (l : List Int) (key : Int) : Int := if roOk x l key then (roN x l key).1 else x
def roL (x : Int) (l : List Int) (key : Int) : List Int := if roOk x l key then (roN x l key).2 else l
theorem ro_no {x k : Int} {l : List Int} (h : roOk x l k = false) : roX x l k = x ∧ roL x l k = l := by
  unfold roX roL; rw [h]; exact ⟨rfl, rfl⟩
theorem ro_yes {x k : Int} {l : List Int} (h : roOk x l k = true) : roX x l k = (roN x l k).1 ∧ roL x l k = (roN x l k).2 := by
  unfold roX roL; rw [h]; exact ⟨rfl, rfl⟩
theorem roL_len (x k : Int) (l : List Int) : (roL x l k).length ≤ l.length + 1 := by
  unfold roL roN
  split
  · split <;> simp
  · omega
theorem ro_key {x k : Int} {l : List Int} (h : roOk x l k = true) : rgOk x l = true ∧ inB k 0 1099511627776 = true := by
  unfold roOk at h
  rw [Bool.and_eq_true] at h
  refine ⟨h.1, ?_⟩
  have h2 := h.2
  unfold rgOk at h2
  rw [Bool.and_eq_true] at h2
  have h3 := List.all_eq_true.1 h2.2 k
  refine h3 ?_
  unfold roN
  split
  · rename_i h12
    show k ∈ (l ++ [k]).drop 1
    cases l with
    | nil => simp at h12
    | cons a l => simp
  · simp
/-- behind the copy: the box of the copy, its cells, what was there -/
def CloneAt (w : World) (x : Int) (A : Option Addr) (c : Nat) (l : List Int) (p : Value) (wx : World) : Prop :=
  ∃ g A1 c1, p = .pointer (some ⟨g, 0, none⟩) ∧ w.heap.size + 2 ≤ g ∧ Blk wx g 58 #[.int .i64 x, .slice A1 l.length c1] ∧ l.length ≤ c1 ∧ wx.ownsRow (w.heap.size + 2) 3 1 (.slice A1 l.length c1) l.length (iC l) ∧
    Below w.heap.size w wx ∧ Blk wx w.heap.size 58 #[.int .i64 x, .slice A l.length c] ∧ Blk wx (w.heap.size + 1) 58 #[.int .i64 0, .slice none 0 0]
/-- behind the append: the box of the longer ring -/
def PushAt (w : World) (x key : Int) (l : List Int) (p : Value) (wx : World) : Prop :=
  ∃ g A1 c1, p = .pointer (some ⟨g, 0, none⟩) ∧ w.heap.size ≤ g ∧ Blk wx g 58 #[.int .i64 x, .slice A1 (l.length + 1) c1] ∧ l.length + 1 ≤ c1 ∧ wx.ownsRow w.heap.size 3 1 (.slice A1 (l.length + 1) c1) (l.length + 1) (iC l ++ [.int .i64 key]) ∧
    Below w.heap.size w wx
theorem RotateRing_s (x key : Int) (A : Option Addr) (n c : Nat) (l : List Int) (w : World) (hr : Rd w w.heap.size 1 A n (iC l)) (hn : n ≤ 1048576) :
    Calls Try.prog 69 #[.agg #[.int .i64 x, .slice A n c], .int .i64 key] w (RetRing2 (roX x l key) (roL x l key) (roOk x l key) w) := by
  have hln := hr.in_
  subst hln
  go_enter Try.func69, Try.ntmps69
  go_upto_region 1 with fail
  have L := ((Blk.new w 58 #[.int .i64 x, .slice A l.length c]).alloc (.cells #[.int .i64 0, .slice none 0 0] 58))
  have M := (Blk.new1 w (.cells #[.int .i64 x, .slice A l.length c] 58) 58 #[.int .i64 0, .slice none 0 0])
  have hB : Below w.heap.size w ((w.alloc (.cells #[.int .i64 x, .slice A l.length c] 58)).alloc (.cells #[.int .i64 0, .slice none 0 0] 58)) := (by repeat (first | with_reducible exact Below.refl _ _ | with_reducible assumption | refine Below.alloc ?_ (by first | omega | (simp; done) | (simp; omega)) _ | refine Below.setCell ?_ (by first | omega | (simp; done) | (simp; omega)) _ | refine Below.drew ?_ | refine below_drewN ?_ _ | exact Below.refl _ _ | assumption))
  have hz0 : ((w.alloc (.cells #[.int .i64 x, .slice A l.length c] 58)).alloc (.cells #[.int .i64 0, .slice none 0 0] 58)).heap.size = w.heap.size + 2 := by simp
  generalize (w.alloc (.cells #[.int .i64 x, .slice A l.length c] 58)).alloc (.cells #[.int .i64 0, .slice none 0 0] 58) = w0 at L M hB hz0 ⊢
  go_cut [6] (fun p wx => CloneAt w x A c l p wx)
  case first =>
    have q0 := L.cell 0
    have q1 := L.cell 1
    have HB := hide hB
    have HL := hide L
    have HM := hide M
    have HR := hide (hr.up hB)
    clear hr L M hB
    go_region_held3 (fun w' => w'.cell? ⟨w.heap.size, 0, none⟩ = some (.int .i64 x) ∧ w'.cell? ⟨w.heap.size, 1, none⟩ = some (.slice A l.length c)) (exact ⟨cell_old (B := w0.heap.size) q0 (by repeat (first | with_reducible exact Below.refl _ _ | with_reducible assumption | refine Below.alloc ?_ (by first | omega | (simp; done) | (simp; omega)) _ | refine Below.setCell ?_ (by first | omega | (simp; done) | (simp; omega)) _ | refine Below.drew ?_ | refine below_drewN ?_ _ | exact Below.refl _ _ | assumption)) (by first | omega | (simp; done) | (simp; omega)), cell_old (B := w0.heap.size) q1 (by repeat (first | with_reducible exact Below.refl _ _ | with_reducible assumption | refine Below.alloc ?_ (by first | omega | (simp; done) | (simp; omega)) _ | refine Below.setCell ?_ (by first | omega | (simp; done) | (simp; omega)) _ | refine Below.drew ?_ | refine below_drewN ?_ _ | exact Below.refl _ _ | assumption)) (by first | omega | (simp; done) | (simp; omega))⟩) (first | (go_at_call 134; refine (l01Copy_c A _ c l _ (HR.out.up (by repeat (first | with_reducible exact Below.refl _ _ | with_reducible assumption | refine Below.alloc ?_ (by first | omega | (simp; done) | (simp; omega)) _ | refine Below.setCell ?_ (by first | omega | (simp; done) | (simp; omega)) _ | refine Below.drew ?_ | refine below_drewN ?_ _ | exact Below.refl _ _ | assumption))) (by omega)).mono ?_; rintro e w1 ⟨A1, c1, rfl, hc1, ho1, hb1⟩; have hT := then_ (w0 := w0) (B := w0.heap.size) (by repeat (first | with_reducible exact Below.refl _ _ | with_reducible assumption | refine Below.alloc ?_ (by first | omega | (simp; done) | (simp; omega)) _ | refine Below.setCell ?_ (by first | omega | (simp; done) | (simp; omega)) _ | refine Below.drew ?_ | refine below_drewN ?_ _ | exact Below.refl _ _ | assumption)) hb1 (by first | omega | (simp; done) | (simp; omega)); have hs1 := hT.size; have hM1 := fun (g t : Nat) (cs : Array Value) (h : Blk _ g t cs) => Blk.step1 hb1 h; obtain ⟨hcl, hfr⟩ := bcell hb1))
    all_goals
      go_wp2_with fail
      go_meet
    case rel =>
      clear hfr hcl
      have hB' := HB.out
      refine ⟨_, A1, c1, rfl, ?_, ?_, hc1, ?_, ?_, ?_, ?_⟩
      · first | omega | (simp; done) | (simp; omega)
      · first | exact Blk.new _ _ _ | exact (Blk.new _ _ _).drew
      · exact own_mono (base := w0.heap.size) (by repeat (first | with_reducible assumption | with_reducible refine ownsRow_setCell_below ?_ (by first | omega | (simp; done) | (simp; omega)) _ | with_reducible refine World.ownsRow.alloc ?_ _ | exact own_mono (by assumption) (by first | omega | (simp; done) | (simp; omega)) | assumption | refine ownsRow_setCell_below ?_ (by first | omega | (simp; done) | (simp; omega)) _ | refine World.ownsRow.alloc ?_ _)) (by first | omega | (simp; done) | (simp; omega))
      · exact HB.out.trans (Below.mono (B := w0.heap.size) (by repeat (first | with_reducible exact Below.refl _ _ | with_reducible assumption | refine Below.alloc ?_ (by first | omega | (simp; done) | (simp; omega)) _ | refine Below.setCell ?_ (by first | omega | (simp; done) | (simp; omega)) _ | refine Below.drew ?_ | refine below_drewN ?_ _ | exact Below.refl _ _ | assumption)) (by first | omega | (simp; done) | (simp; omega)))
      · exact HL.out.below (B := w0.heap.size) (by repeat (first | with_reducible exact Below.refl _ _ | with_reducible assumption | refine Below.alloc ?_ (by first | omega | (simp; done) | (simp; omega)) _ | refine Below.setCell ?_ (by first | omega | (simp; done) | (simp; omega)) _ | refine Below.drew ?_ | refine below_drewN ?_ _ | exact Below.refl _ _ | assumption)) (by first | omega | (simp; done) | (simp; omega))
      · exact HM.out.below (B := w0.heap.size) (by repeat (first | with_reducible exact Below.refl _ _ | with_reducible assumption | refine Below.alloc ?_ (by first | omega | (simp; done) | (simp; omega)) _ | refine Below.setCell ?_ (by first | omega | (simp; done) | (simp; omega)) _ | refine Below.drew ?_ | refine below_drewN ?_ _ | exact Below.refl _ _ | assumption)) (by first | omega | (simp; done) | (simp; omega))
    case rel =>
      clear hfr hcl
      have hB' := HB.out
      refine ⟨_, A1, c1, rfl, ?_, ?_, hc1, ?_, ?_, ?_, ?_⟩
      · first | omega | (simp; done) | (simp; omega)
      · exact Blk.set (Blk.set (hM1 (w.heap.size + 2) 58 #[.int .i64 0, .slice none 0 0] (by rw [← hz0]; exact Blk.new w0 58 _)) _ _) _ _
      · refine own_mono (base' := w.heap.size + 2) (?_ : World.ownsRow _ (w0.alloc (Obj.cells #[Value.int IntKind.i64 0, Value.slice none 0 0] 58)).drew.heap.size _ _ _ _ _) (by first | omega | (simp; done) | (simp; omega)); refine ownsRow_setCell_below ?_ (by first | omega | (simp; done) | (simp; omega)) _; refine ownsRow_setCell_below ?_ (by first | omega | (simp; done) | (simp; omega)) _; exact ho1
      · exact HB.out.trans (Below.mono (B := w0.heap.size) (by repeat (first | with_reducible exact Below.refl _ _ | with_reducible assumption | refine Below.alloc ?_ (by first | omega | (simp; done) | (simp; omega)) _ | refine Below.setCell ?_ (by first | omega | (simp; done) | (simp; omega)) _ | refine Below.drew ?_ | refine below_drewN ?_ _ | exact Below.refl _ _ | assumption)) (by first | omega | (simp; done) | (simp; omega)))
      · exact HL.out.below (B := w0.heap.size) (by repeat (first | with_reducible exact Below.refl _ _ | with_reducible assumption | refine Below.alloc ?_ (by first | omega | (simp; done) | (simp; omega)) _ | refine Below.setCell ?_ (by first | omega | (simp; done) | (simp; omega)) _ | refine Below.drew ?_ | refine below_drewN ?_ _ | exact Below.refl _ _ | assumption)) (by first | omega | (simp; done) | (simp; omega))
      · exact HM.out.below (B := w0.heap.size) (by repeat (first | with_reducible exact Below.refl _ _ | with_reducible assumption | refine Below.alloc ?_ (by first | omega | (simp; done) | (simp; omega)) _ | refine Below.setCell ?_ (by first | omega | (simp; done) | (simp; omega)) _ | refine Below.drew ?_ | refine below_drewN ?_ _ | exact Below.refl _ _ | assumption)) (by first | omega | (simp; done) | (simp; omega))
  case rest =>
    obtain ⟨g, A1, c1, rfl, hg, hG, hc1, ho1, hB1, hL1, hM1⟩ := hcut
    have hz1 := hB1.size
    have hz1' := hG.lt
    clear L M hB hz0
    have c0 := hL1.cell 0
    have c1' := hL1.cell 1
    go_wp2_with fail
    clear c0 c1'
    refine (RingOk_s x A _ c l _ (hr.up hB1)).mono ?_
    rintro e w2 ⟨rfl, hb2⟩
    have hB2 := then_ hB1 hb2 hz1
    have hz2 := hb2.size
    obtain ⟨hG, qG, fG, _⟩ := hG.step hb2
    obtain ⟨hL, qL, fL, _⟩ := hL1.step hb2
    obtain ⟨hM, qM, fM, _⟩ := hM1.step hb2
    have hO := (Ow.of_own ho1).below hb2 (Nat.le_refl _)
    clear hB1 hb2 hL1 hM1 ho1
    cases hk : rgOk x l
    · have hno : roOk x l key = false := by unfold roOk; rw [hk]; rfl
      obtain ⟨e1, e2⟩ := ro_no hno
      go_wp2_with fail
      refine bodyPost_ret (v := .tuple #[.agg #[.int .i64 x, .slice A1 l.length c1], .bool false]) (by simp [results, Try.results69, go_sem, qM]) rfl ?_
      show RetRing2 _ _ _ _ _ _
      rw [e1, e2, hno]
      refine ⟨_, _, rfl, hc1, ?_, (by repeat (first | with_reducible exact Below.refl _ _ | with_reducible assumption | refine Below.alloc ?_ (by first | omega | (simp; done) | (simp; omega)) _ | refine Below.setCell ?_ (by first | omega | (simp; done) | (simp; omega)) _ | refine Below.drew ?_ | refine below_drewN ?_ _ | exact Below.refl _ _ | assumption))⟩
      refine Ow.mono (lo := w.heap.size + 2) (hi := wc.heap.size) ?_ (by first | omega | (simp; done) | (simp; omega)) (by first | omega | (simp; done) | (simp; omega))
      refine Ow.far ?_ (by first | omega | (simp; done) | (simp; omega)) _
      refine Ow.far ?_ (by first | omega | (simp; done) | (simp; omega)) _
      exact hO
    · obtain ⟨bd1, bd2, bd3, bd4⟩ := rg_bd hk
      go_upto_region 4 with fail
      go_cut [7] (fun p wx => PushAt w2 x key l p wx)
      case first =>
        have q0 := hL.cell 0
        have q1 := hL.cell 1
        have HR := hide (hr.up hB2)
        clear hr hG hL hM hO hB2 qG qL qM fG fL fM
        go_region_held3 (fun w' => w'.cell? ⟨w.heap.size, 0, none⟩ = some (.int .i64 x) ∧ w'.cell? ⟨w.heap.size, 1, none⟩ = some (.slice A l.length c)) (exact ⟨cell_old (B := w2.heap.size) q0 (by repeat (first | with_reducible exact Below.refl _ _ | with_reducible assumption | refine Below.alloc ?_ (by first | omega | (simp; done) | (simp; omega)) _ | refine Below.setCell ?_ (by first | omega | (simp; done) | (simp; omega)) _ | refine Below.drew ?_ | refine below_drewN ?_ _ | exact Below.refl _ _ | assumption)) (by first | omega | (simp; done) | (simp; omega)), cell_old (B := w2.heap.size) q1 (by repeat (first | with_reducible exact Below.refl _ _ | with_reducible assumption | refine Below.alloc ?_ (by first | omega | (simp; done) | (simp; omega)) _ | refine Below.setCell ?_ (by first | omega | (simp; done) | (simp; omega)) _ | refine Below.drew ?_ | refine below_drewN ?_ _ | exact Below.refl _ _ | assumption)) (by first | omega | (simp; done) | (simp; omega))⟩) (first | (go_at_call 134; refine (l01Copy_c A _ c l _ (HR.out.up (by repeat (first | with_reducible exact Below.refl _ _ | with_reducible assumption | refine Below.alloc ?_ (by first | omega | (simp; done) | (simp; omega)) _ | refine Below.setCell ?_ (by first | omega | (simp; done) | (simp; omega)) _ | refine Below.drew ?_ | refine below_drewN ?_ _ | exact Below.refl _ _ | assumption))) (by omega)).mono ?_; rintro e w3 ⟨A3, c3, rfl, hc3, ho3, hb3⟩; have hT := then_ (w0 := w2) (B := w2.heap.size) (by repeat (first | with_reducible exact Below.refl _ _ | with_reducible assumption | refine Below.alloc ?_ (by first | omega | (simp; done) | (simp; omega)) _ | refine Below.setCell ?_ (by first | omega | (simp; done) | (simp; omega)) _ | refine Below.drew ?_ | refine below_drewN ?_ _ | exact Below.refl _ _ | assumption)) hb3 (by first | omega | (simp; done) | (simp; omega)); have hs1 := hT.size; have hN1 := fun (g t : Nat) (cs : Array Value) (h : Blk _ g t cs) => Blk.step1 hb3 h; replace ho3 := own_mono (base' := w2.heap.size) ho3 (by first | omega | (simp; done) | (simp; omega)); clear hb3) | (refine step_app1 (by rfl) (.tmp 22) (.tmp 24) 53 (by rfl) w2.heap.size 3 (.int .i64 0) 1 8 Try.underlying53 info3 rfl (by omega) A3 l.length c3 (iC l) [.int .i64 key] (by rfl) ⟨_, rfl, (by repeat (first | with_reducible exact Blk.new _ _ _ | with_reducible exact Blk.new1 _ _ _ _ | with_reducible assumption | with_reducible refine Blk.drew ?_ | with_reducible refine Blk.alloc ?_ _ | with_reducible refine hN1 _ _ _ ?_ | with_reducible refine hN2 _ _ _ (by omega) ?_))⟩ rfl (by simp [Value.oneCell']) (by repeat (first | with_reducible assumption | with_reducible refine ownsRow_setCell_below ?_ (by first | omega | (simp; done) | (simp; omega)) _ | with_reducible refine World.ownsRow.alloc ?_ _ | exact own_mono (by assumption) (by first | omega | (simp; done) | (simp; omega)) | assumption | refine ownsRow_setCell_below ?_ (by first | omega | (simp; done) | (simp; omega)) _ | refine World.ownsRow.alloc ?_ _)) (by omega) (by omega) (by first | omega | (simp; done) | (simp; omega)) ?_; intro A4 c4 w4 hc4 ho4 hb4 hN2; have hT4 := Below.trans (a := w2) (B := w2.heap.size) (by repeat (first | with_reducible exact Below.refl _ _ | with_reducible assumption | refine Below.alloc ?_ (by first | omega | (simp; done) | (simp; omega)) _ | refine Below.setCell ?_ (by first | omega | (simp; done) | (simp; omega)) _ | refine Below.drew ?_ | refine below_drewN ?_ _ | exact Below.refl _ _ | assumption)) hb4; have hs4 := hT4.size; clear hb4; (first | (have z0 := hN2 _ _ _ (by omega) (Blk.new1 w3 _ 58 #[.int .i64 0, .slice none 0 0]); have cz := z0.cell; have fz := z0.frozen) | (have z0 := hN2 _ _ _ (by omega) ((Blk.new w3 58 #[.int .i64 0, .slice none 0 0]).alloc _); have cz := z0.cell; have fz := z0.frozen) | (have z0 := hN2 _ _ _ (by omega) (Blk.new w3 58 #[.int .i64 0, .slice none 0 0]); have cz := z0.cell; have fz := z0.frozen) | (have z0 := hN2 _ _ _ (by omega) (hN1 _ _ _ (Blk.new1 w2 _ 58 #[.int .i64 0, .slice none 0 0]).drew); have cz := z0.cell; have fz := z0.frozen) | (have z0 := hN2 _ _ _ (by omega) (hN1 _ _ _ ((Blk.new w2 58 #[.int .i64 0, .slice none 0 0]).alloc _).drew); have cz := z0.cell; have fz := z0.frozen) | (have z0 := hN2 _ _ _ (by omega) ((hN1 _ _ _ (Blk.new w2 58 #[.int .i64 0, .slice none 0 0]).drew).alloc _); have cz := z0.cell; have fz := z0.frozen) | skip)) | fail)
        all_goals
          go_wp2_with fail
          go_meet
        all_goals clear HR
        all_goals first | (refine ⟨_, A4, c4, rfl, hs4, Blk.new _ _ _, hc4, ho4.alloc _, ?_⟩; exact (by repeat (first | with_reducible exact Below.refl _ _ | with_reducible assumption | refine Below.alloc ?_ (by first | omega | (simp; done) | (simp; omega)) _ | refine Below.setCell ?_ (by first | omega | (simp; done) | (simp; omega)) _ | refine Below.drew ?_ | refine below_drewN ?_ _ | exact Below.refl _ _ | assumption))) | (refine ⟨_, A4, c4, rfl, ?_, Blk.set (Blk.set z0 _ _) _ _, hc4, own_setfar (own_setfar ho4 z0 (by decide) _ _) (Blk.set z0 _ _) (by decide) _ _, ?_⟩; (first | omega | (simp; done) | (simp; omega)); exact (by repeat (first | with_reducible exact Below.refl _ _ | with_reducible assumption | refine Below.alloc ?_ (by first | omega | (simp; done) | (simp; omega)) _ | refine Below.setCell ?_ (by first | omega | (simp; done) | (simp; omega)) _ | refine Below.drew ?_ | refine below_drewN ?_ _ | exact Below.refl _ _ | assumption)))
      case rest =>
        obtain ⟨g7, A7, c7, rfl, hg7, hG7, hc7, ho7, hB7⟩ := hcut
        have hB8 := then_ hB2 hB7 (by omega)
        have hz7 := hB7.size
        have hl7 := hG7.lt
        have hG := hG.below hB7 (by omega)
        have hL := hL.below hB7 (by omega)
        have hM := hM.below hB7 (by omega)
        have hO := hO.below hB7 (by omega)
        clear qG fG qL fL qM fM
        have q7 := hG7.cell
        have f7 := hG7.frozen
        rw [show iC l ++ [Value.int .i64 key] = iC (l ++ [key]) from by simp [iC]] at ho7
        obtain ⟨b, rfl⟩ : ∃ b, A7 = some ⟨b, 0, none⟩ := by
          rcases ho7.2 with ⟨_, h0⟩ | ⟨gg, cap, cur, hv, _⟩
          · omega
          · injection hv with hv
            exact ⟨gg, hv⟩
        have hO7 := Ow.of_own ho7
        by_cases h12 : 12 ≤ l.length
        · have n1 : ¬ c7 = 1 := by omega
          have e0 : roN x l key = (x + 1, (l ++ [key]).drop 1) := by unfold roN; rw [if_pos h12]
          have hle : ((l ++ [key]).drop 1).length = l.length := by simp
          go_wp2_with fail
          have ho8 := own_setfar (own_setfar ho7 hG7 (by decide) 0 (.int .i64 (x + 1))) (hG7.set 0 (.int .i64 (x + 1))) (by decide) 1 (.slice (some ⟨b, 1, none⟩) l.length (c7 - 1))
          have hO7 : Ow ((wc.setCell ⟨g7, 0, none⟩ (.int .i64 (x + 1))).setCell ⟨g7, 1, none⟩ (.slice (some ⟨b, 1, none⟩) l.length (c7 - 1))) w2.heap.size wc.heap.size 3 1 (some ⟨b, 1, none⟩) l.length (iC ((l ++ [key]).drop 1)) := by
            have h := ((Ow.of_own ho8).cut (k := 1) (by omega)).mono (lo' := w2.heap.size) (hi' := wc.heap.size) (Nat.le_refl _) (by first | omega | (simp; done) | (simp; omega))
            simpa [iC, List.map_drop] using h
          have hG7 := Blk.set (Blk.set hG7 0 (.int .i64 (x + 1))) 1 (.slice (some ⟨b, 1, none⟩) l.length (c7 - 1))
          have hB8 : Below w.heap.size w ((wc.setCell ⟨g7, 0, none⟩ (.int .i64 (x + 1))).setCell ⟨g7, 1, none⟩ (.slice (some ⟨b, 1, none⟩) l.length (c7 - 1))) := (by repeat (first | with_reducible exact Below.refl _ _ | with_reducible assumption | refine Below.alloc ?_ (by first | omega | (simp; done) | (simp; omega)) _ | refine Below.setCell ?_ (by first | omega | (simp; done) | (simp; omega)) _ | refine Below.drew ?_ | refine below_drewN ?_ _ | exact Below.refl _ _ | assumption))
          have hG := (hG.far (p := ⟨g7, 0, none⟩) (by first | omega | (simp; done) | (simp; omega)) (.int .i64 (x + 1))).far (p := ⟨g7, 1, none⟩) (by first | omega | (simp; done) | (simp; omega)) (.slice (some ⟨b, 1, none⟩) l.length (c7 - 1))
          have hM := (hM.far (p := ⟨g7, 0, none⟩) (by first | omega | (simp; done) | (simp; omega)) (.int .i64 (x + 1))).far (p := ⟨g7, 1, none⟩) (by first | omega | (simp; done) | (simp; omega)) (.slice (some ⟨b, 1, none⟩) l.length (c7 - 1))
          have hO := (hO.far (p := ⟨g7, 0, none⟩) (by first | omega | (simp; done) | (simp; omega)) (.int .i64 (x + 1))).far (p := ⟨g7, 1, none⟩) (by first | omega | (simp; done) | (simp; omega)) (.slice (some ⟨b, 1, none⟩) l.length (c7 - 1))
          have hzd : ((wc.setCell ⟨g7, 0, none⟩ (.int .i64 (x + 1))).setCell ⟨g7, 1, none⟩ (.slice (some ⟨b, 1, none⟩) l.length (c7 - 1))).heap.size = wc.heap.size := by simp
          clear ho8 ho7 q7 f7 hL hB7
          generalize (wc.setCell ⟨g7, 0, none⟩ (.int .i64 (x + 1))).setCell ⟨g7, 1, none⟩ (.slice (some ⟨b, 1, none⟩) l.length (c7 - 1)) = wd at hO7 hG7 hB8 hG hM hO hzd ⊢
          refine (RingOk_s (x + 1) (some ⟨b, 1, none⟩) _ (c7 - 1) ((l ++ [key]).drop 1) _ (hO7.rd.mono (by omega))).mono ?_
          rintro e w9 ⟨rfl, hb9⟩
          have hB9 := then_ hB8 hb9 (by omega)
          have hz9 := hb9.size
          obtain ⟨hG, qG, fG, _⟩ := hG.step hb9
          obtain ⟨hM, qM, fM, _⟩ := hM.step hb9
          obtain ⟨hG7, qG7, fG7, _⟩ := hG7.step hb9
          have hO := hO.below hb9 (by omega)
          have hO7 := hO7.below hb9 (by omega)
          clear hb9
          simp only [List.setIfInBounds_toArray, List.set_cons_zero, List.set_cons_succ] at hG7 qG7
          cases hk2 : rgOk (x + 1) ((l ++ [key]).drop 1)
          · have hno : roOk x l key = false := by unfold roOk; rw [e0]; simp only [hk2, Bool.and_false]
            obtain ⟨e1, e2⟩ := ro_no hno
            go_wp2_with fail
            refine bodyPost_ret (v := .tuple #[.agg #[.int .i64 x, .slice A1 l.length c1], .bool false]) (by simp [results, Try.results69, go_sem, qM]) rfl ?_
            show RetRing2 _ _ _ _ _ _
            rw [e1, e2, hno]
            refine ⟨_, _, rfl, hc1, ?_, (by repeat (first | with_reducible exact Below.refl _ _ | with_reducible assumption | refine Below.alloc ?_ (by first | omega | (simp; done) | (simp; omega)) _ | refine Below.setCell ?_ (by first | omega | (simp; done) | (simp; omega)) _ | refine Below.drew ?_ | refine below_drewN ?_ _ | exact Below.refl _ _ | assumption))⟩
            have hO := hO.mono (lo' := w.heap.size + 2) (hi' := w2.heap.size) (Nat.le_refl _) hz2
            refine Ow.mono (lo := w.heap.size + 2) (hi := w2.heap.size) ?_ (by first | omega | (simp; done) | (simp; omega)) (by first | omega | (simp; done) | (simp; omega))
            refine Ow.far ?_ (by first | omega | (simp; done) | (simp; omega)) _
            refine Ow.far ?_ (by first | omega | (simp; done) | (simp; omega)) _
            exact hO
          · have hyes : roOk x l key = true := by unfold roOk; rw [e0, hk]; simp only [hk2, Bool.and_true]
            obtain ⟨e1, e2⟩ := ro_yes hyes
            rw [e0] at e1 e2
            go_wp2_with fail
            refine bodyPost_ret (v := .tuple #[.agg #[.int .i64 (x + 1), .slice (some ⟨b, 1, none⟩) l.length (c7 - 1)], .bool true]) (by simp [results, Try.results69, go_sem, qM]) rfl ?_
            show RetRing2 _ _ _ _ _ _
            rw [e1, e2, hyes]
            refine ⟨_, c7 - 1, by rw [hle], by rw [hle]; omega, ?_, (by repeat (first | with_reducible exact Below.refl _ _ | with_reducible assumption | refine Below.alloc ?_ (by first | omega | (simp; done) | (simp; omega)) _ | refine Below.setCell ?_ (by first | omega | (simp; done) | (simp; omega)) _ | refine Below.drew ?_ | refine below_drewN ?_ _ | exact Below.refl _ _ | assumption))⟩
            rw [hle]
            refine Ow.mono (lo := w2.heap.size) (hi := wc.heap.size) ?_ (by first | omega | (simp; done) | (simp; omega)) (by first | omega | (simp; done) | (simp; omega))
            refine Ow.far ?_ (by first | omega | (simp; done) | (simp; omega)) _
            refine Ow.far ?_ (by first | omega | (simp; done) | (simp; omega)) _
            exact hO7
        · have e0 : roN x l key = (x, l ++ [key]) := by unfold roN; rw [if_neg h12]
          go_wp2_with fail
          refine (RingOk_s x (some ⟨b, 0, none⟩) _ c7 (l ++ [key]) _ hO7.rd).mono ?_
          rintro e w9 ⟨rfl, hb9⟩
          have hB9 := then_ hB8 hb9 (by omega)
          have hz9 := hb9.size
          obtain ⟨hG, qG, fG, _⟩ := hG.step hb9
          obtain ⟨hM, qM, fM, _⟩ := hM.step hb9
          obtain ⟨hG7, qG7, fG7, _⟩ := hG7.step hb9
          have hO := hO.below hb9 (by omega)
          have hO7 := hO7.below hb9 (by omega)
          clear q7 f7 hL ho7 hb9
          cases hk2 : rgOk x (l ++ [key])
          · have hno : roOk x l key = false := by unfold roOk; rw [e0]; simp [hk2]
            obtain ⟨e1, e2⟩ := ro_no hno
            go_wp2_with fail
            refine bodyPost_ret (v := .tuple #[.agg #[.int .i64 x, .slice A1 l.length c1], .bool false]) (by simp [results, Try.results69, go_sem, qM]) rfl ?_
            show RetRing2 _ _ _ _ _ _
            rw [e1, e2, hno]
            refine ⟨_, _, rfl, hc1, ?_, (by repeat (first | with_reducible exact Below.refl _ _ | with_reducible assumption | refine Below.alloc ?_ (by first | omega | (simp; done) | (simp; omega)) _ | refine Below.setCell ?_ (by first | omega | (simp; done) | (simp; omega)) _ | refine Below.drew ?_ | refine below_drewN ?_ _ | exact Below.refl _ _ | assumption))⟩
            have hO := hO.mono (lo' := w.heap.size + 2) (hi' := w2.heap.size) (Nat.le_refl _) hz2
            refine Ow.mono (lo := w.heap.size + 2) (hi := w2.heap.size) ?_ (by first | omega | (simp; done) | (simp; omega)) (by first | omega | (simp; done) | (simp; omega))
            refine Ow.far ?_ (by first | omega | (simp; done) | (simp; omega)) _
            refine Ow.far ?_ (by first | omega | (simp; done) | (simp; omega)) _
            exact hO
          · have hyes : roOk x l key = true := by unfold roOk; rw [e0, hk, hk2]; rfl
            obtain ⟨e1, e2⟩ := ro_yes hyes
            rw [e0] at e1 e2
            go_wp2_with fail
            refine bodyPost_ret (v := .tuple #[.agg #[.int .i64 x, .slice (some ⟨b, 0, none⟩) (l.length + 1) c7], .bool true]) (by simp [results, Try.results69, go_sem, qM]) rfl ?_
            show RetRing2 _ _ _ _ _ _
            rw [e1, e2, hyes]
            have hle : (l ++ [key]).length = l.length + 1 := by simp
            refine ⟨_, c7, by rw [hle], by rw [hle]; exact hc7, ?_, (by repeat (first | with_reducible exact Below.refl _ _ | with_reducible assumption | refine Below.alloc ?_ (by first | omega | (simp; done) | (simp; omega)) _ | refine Below.setCell ?_ (by first | omega | (simp; done) | (simp; omega)) _ | refine Below.drew ?_ | refine below_drewN ?_ _ | exact Below.refl _ _ | assumption))⟩
            rw [hle]
            refine Ow.mono (lo := w2.heap.size) (hi := wc.heap.size) ?_ (by first | omega | (simp; done) | (simp; omega)) (by first | omega | (simp; done) | (simp; omega))
            refine Ow.far ?_ (by first | omega | (simp; done) | (simp; omega)) _
            refine Ow.far ?_ (by first | omega | (simp; done) | (simp; omega)) _
            exact hO7
end Go.Proofs.Ytmebpmaldcogbaa
