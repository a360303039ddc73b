/- Key rings: copies, rotation, trimming: what the program's and the reference's functions give. -/
import Derived.Test.YtmebpmaldcogbaaA7
import Derived.Test.YtmebpmaldcogbaaMem6
import Derived.WalkSpells
import Derived.Deep.RegionHeld3
namespace Go.Proofs.Ytmebpmaldcogbaa
open Go.RowKit Gf
set_option maxRecDepth 100000
set_option maxHeartbeats 400000
theorem Rd.nil_len {w : World} {hi size n : Nat} {xs : List Value} (h : Rd w hi size none n xs) : n = 0 := by
  rcases Nat.eq_zero_or_pos n with h0 | h0
  · exact h0
  · obtain ⟨b, off, e, _⟩ := h.2.2 h0
    cases e
theorem cloneInts_c (A : Option Addr) (n c : Nat) (l : List Int) (w : World) (hr : Rd w w.heap.size 1 A n (iC l)) (hn : n ≤ 1099511627776) :
    Calls Try.prog 154 #[.slice A n c] w (RetRow 3 1 n (iC l) w) := by
  have hln := hr.in_
  cases A with
  | none =>
    have h0 := hr.nil_len
    subst h0
    have hl0 : l = [] := List.eq_nil_of_length_eq_zero hln
    subst hl0
    clear hln
    have hq := fun (W : World) => Lib.run_eql_slice_nil (P := Try.prog) W 53 3 none 0 c 0 0 Try.underlying53
    simp only [Option.isNone_none] at hq
    go_enter Try.func154, Try.ntmps154
    go_wp2_with fail
    go_ret
    exact ⟨_, _, rfl, Nat.le_refl _, World.ownsRow_nil _ _ _ _, Below.refl _ _⟩
  | some a =>
    have hq := fun (W : World) => Lib.run_eql_slice_nil (P := Try.prog) W 53 3 (some a) n c 0 0 Try.underlying53
    simp only [Option.isNone_some] at hq
    have HL := hide hln
    clear hln
    go_enter Try.func154, Try.ntmps154
    go_wp2_with (at_builtin; refine wpList_app _ rfl (.tmp 5) (.tmp 6) 53 rfl w.heap.size 3 _ 1 8 Try.underlying53 info3 rfl (by omega) _ 0 0 [] rfl (World.ownsRow_made w #[] 0 (Nat.le_refl _) (by omega) rfl) (some a) n c _ (iC l) rfl (hr.up ((Below.refl _ _).alloc (Nat.le_refl _) _)) (iC_one _) (by omega) (by omega) (by simp) ?_; intro A1 c1 w1 hc1 hown1 hg1 _)
    go_ret
    rw [Nat.zero_add, List.nil_append] at hown1
    rw [Nat.zero_add] at hc1
    refine ⟨A1, c1, rfl, hc1, hown1, ?_⟩
    refine Below.grown ((Below.refl _ _).alloc (Nat.le_refl _) _) hg1 (by simp) ?_
    intro k hk
    simp [Value.ownBlock] at hk
    omega
def RetRing2 (x : Int) (l : List Int) (ok : Bool) (w : World) (en : Ending) (w' : World) : Prop :=
  ∃ A c, en = .returned (.tuple #[.agg #[.int .i64 x, .slice A l.length c], .bool ok]) ∧ l.length ≤ c ∧ Ow w' w.heap.size w'.heap.size 3 1 A l.length (iC l) ∧ Below w.heap.size w w'
theorem cloneRing_c (x : Int) (A : Option Addr) (n c : Nat) (l : List Int) (w : World) (hr : Rd w w.heap.size 1 A n (iC l)) (hn : n ≤ 1099511627776) :
    Calls Try.prog 135 #[.agg #[.int .i64 x, .slice A n c]] w (RetRing x l w) := by
  have hln := hr.in_
  subst hln
  go_enter Try.func135, Try.ntmps135
  go_wp2_with fail
  have L := ((Blk.new w 58 #[.int .i64 x, .slice A l.length c]).alloc (.cells #[.int .i64 0, .slice none 0 0] 58)).drew
  have M := (Blk.new1 w (.cells #[.int .i64 x, .slice A l.length c] 58) 58 #[.int .i64 0, .slice none 0 0]).drew
  have hB : Below w.heap.size w ((w.alloc (.cells #[.int .i64 x, .slice A l.length c] 58)).alloc (.cells #[.int .i64 0, .slice none 0 0] 58)).drew := (by repeat (first | exact Below.refl _ _ | assumption | refine Below.alloc ?_ (by first | omega | (simp; done) | (simp; omega)) _ | refine Below.setCell ?_ (by first | omega | (simp; done) | (simp; omega)) _ | refine Below.drew ?_ | refine below_drewN ?_ _))
  go_region_held3 (fun w' => w'.cell? ⟨w.heap.size, 0, none⟩ = some (.int .i64 x) ∧ w'.cell? ⟨w.heap.size, 1, none⟩ = some (.slice A l.length c)) (first | exact ⟨L.cell 0, L.cell 1⟩ | exact ⟨((L.far (by first | omega | (simp; done) | (simp; omega)) _).far (by first | omega | (simp; done) | (simp; omega)) _).cell 0, ((L.far (by first | omega | (simp; done) | (simp; omega)) _).far (by first | omega | (simp; done) | (simp; omega)) _).cell 1⟩) (first | (go_at_call 154; refine (cloneInts_c A _ c l _ (hr.up hB) hn).mono ?_; rintro e w1 ⟨A1, c1, rfl, hc1, ho1, hb1⟩; replace hB := then_ hB hb1 hB.size; obtain ⟨M, qM, fM, _⟩ := M.step hb1; obtain ⟨L, qL, _, _⟩ := L.step hb1))
  have hz := hb1.size
  simp at hz
  go_wp2_with fail
  refine bodyPost_ret (v := .agg #[.int .i64 x, .slice A1 l.length c1]) (by simp [results, Try.results135, go_sem, qM, fM]) rfl ?_
  refine ⟨_, _, rfl, hc1, ?_, (by repeat (first | exact Below.refl _ _ | assumption | refine Below.alloc ?_ (by first | omega | (simp; done) | (simp; omega)) _ | refine Below.setCell ?_ (by first | omega | (simp; done) | (simp; omega)) _ | refine Below.drew ?_ | refine below_drewN ?_ _))⟩
  exact own_mono (base := w.heap.size + 1 + 1) (by repeat (first | assumption | exact own_mono (by assumption) (by first | omega | (simp; done) | (simp; omega)) | refine ownsRow_setCell_below ?_ (by first | omega | (simp; done) | (simp; omega)) _ | refine World.ownsRow.alloc ?_ _)) (by omega)
end Go.Proofs.Ytmebpmaldcogbaa
