/- A slice of shares whose bytes lie in other shares' rows: picked out of a list, grown and put; there is no program here. -/
import Derived.Test.YtgkjgaijjihmgaaP3
import Derived.Test.YtgkjgaijjihmgaaMem9
namespace Go.Proofs.Ytgkjgaijjihmgaa
open Go.RowKit Gf
set_option maxRecDepth 100000
/-- a share, and where its bytes lie -/
abbrev Hz := (Option Addr × Nat) × Sh
def zC (zs : List Hz) : List Value := zs.flatMap fun z => [.int .i64 z.2.1, .slice z.1.1 z.2.2.length z.1.2]
theorem zC_snoc (zs : List Hz) (z : Hz) : zC (zs ++ [z]) = zC zs ++ [.int .i64 z.2.1, .slice z.1.1 z.2.2.length z.1.2] := by simp [zC]
theorem zC_cons (z : Hz) (zs : List Hz) : zC (z :: zs) = .int .i64 z.2.1 :: .slice z.1.1 z.2.2.length z.1.2 :: zC zs := rfl
theorem zC_length (zs : List Hz) : (zC zs).length = zs.length * 2 := by
  induction zs with
  | nil => rfl
  | cons z zs ih => rw [zC_cons, List.length_cons, List.length_cons, ih, List.length_cons]; omega
theorem zC_get {zs : List Hz} {k : Nat} (h : k < zs.length) : (zC zs)[k * 2]? = some (.int .i64 zs[k].2.1) ∧ (zC zs)[k * 2 + 1]? = some (.slice zs[k].1.1 zs[k].2.2.length zs[k].1.2) := by
  induction zs generalizing k with
  | nil => simp at h
  | cons z zs ih =>
    rw [zC_cons]
    cases k with
    | zero => exact ⟨rfl, rfl⟩
    | succ k =>
      rw [show (k + 1) * 2 = k * 2 + 2 from by omega]
      exact ih (by simpa using h)
theorem zC_set {zs : List Hz} {k : Nat} (h : k < zs.length) (z : Hz) : zC (zs.set k z) = ((zC zs).set (k * 2) (.int .i64 z.2.1)).set (k * 2 + 1) (.slice z.1.1 z.2.2.length z.1.2) := by
  induction zs generalizing k with
  | nil => simp at h
  | cons y zs ih =>
    cases k with
    | zero => rfl
    | succ k =>
      have := ih (k := k) (by simpa using h)
      simp only [List.set_cons_succ, zC_cons, this]
      rw [show (k + 1) * 2 = k * 2 + 1 + 1 from by omega]
      simp only [List.set_cons_succ]
/-- a row of the call's own that holds shares picked out of src -/
structure Som (w : World) (B e : Nat) (src : List Hz) (A : Option Addr) (n c : Nat) (zs : List Hz) : Prop where
  row : w.ownsRow B e 2 (.slice A n c) n (zC zs)
  mem : ∀ z, z ∈ zs → z ∈ src
section
variable {w w' wb : World} {B e n c : Nat} {src zs : List Hz} {A : Option Addr}
theorem Som.len (h : Som w B e src A n c zs) : zs.length = n := by
  have := h.row.1
  rw [zC_length] at this
  omega
theorem Som.below (h : Som w B e src A n c zs) (hb : Below w.heap.size w w') : Som w' B e src A n c zs :=
  ⟨own_keep h.row fun a ha => hb.block _ (by subst ha; exact own_lt h.row), h.mem⟩
theorem Som.push {A' : Option Addr} {c' : Nat} {z : Hz} (h : Som w B e src A n c zs) (hz : z ∈ src) (hr : w'.ownsRow B e 2 (.slice A' (n + 1) c') (n + 1) (zC zs ++ [.int .i64 z.2.1, .slice z.1.1 z.2.2.length z.1.2])) :
    Som w' B e src A' (n + 1) c' (zs ++ [z]) := by
  refine ⟨by rw [zC_snoc]; exact hr, fun y hy => ?_⟩
  rcases List.mem_append.1 hy with hy | hy
  · exact h.mem y hy
  · have := List.mem_singleton.1 hy
    subst this
    exact hz
theorem Som.at_ (h : Som w B e src A n c zs) {k : Nat} (hk : k < n) : ∃ b off, A = some ⟨b, off, none⟩ ∧ B ≤ b ∧ b < w.heap.size ∧ ∃ hl : k < zs.length,
    w.cell? ⟨b, off + k * 2, none⟩ = some (.int .i64 zs[k].2.1) ∧ w.cell? ⟨b, off + k * 2 + 1, none⟩ = some (.slice zs[k].1.1 zs[k].2.2.length zs[k].1.2) ∧
    w.frozen? ⟨b, off + k * 2, none⟩ = false ∧ w.frozen? ⟨b, off + k * 2 + 1, none⟩ = false := by
  have hl := h.len
  have ho := Ow.of_own h.row
  have hzl := zC_length zs
  obtain ⟨b, off, e1, h1, h2, h3, h4⟩ := ho.at_ (j := k * 2) (by omega)
  obtain ⟨b', off', e2, _, _, h5, h6⟩ := ho.at_ (j := k * 2 + 1) (by omega)
  rw [e1] at e2
  injection e2 with e2
  injection e2 with e2 e3
  subst e2; subst e3
  have g := zC_get (zs := zs) (k := k) (by omega)
  refine ⟨b, off, e1, h1, h2, by omega, ?_, ?_, h4, by rw [Nat.add_assoc]; exact h6⟩
  · rw [h3, ← g.1, List.getElem?_eq_getElem (by omega)]
  · rw [Nat.add_assoc, h5, ← g.2, List.getElem?_eq_getElem (by omega)]
theorem Som.get {b off k : Nat} (h : Som w B e src (some ⟨b, off, none⟩) n c zs) (hk : k < n) : ∃ hl : k < zs.length,
    w.cell? ⟨b, off + k * 2, none⟩ = some (.int .i64 zs[k].2.1) ∧ w.cell? ⟨b, off + k * 2 + 1, none⟩ = some (.slice zs[k].1.1 zs[k].2.2.length zs[k].1.2) ∧
    w.frozen? ⟨b, off + k * 2, none⟩ = false ∧ w.frozen? ⟨b, off + k * 2 + 1, none⟩ = false := by
  obtain ⟨b', off', e1, _, _, h1⟩ := h.at_ hk
  injection e1 with e1
  injection e1 with e1 e2
  subst e1; subst e2
  exact h1
theorem Som.put {b off k : Nat} {z : Hz} (h : Som w B e src (some ⟨b, off, none⟩) n c zs) (hk : k < n) (hz : z ∈ src) :
    Som ((w.setCell ⟨b, off + k * 2, none⟩ (.int .i64 z.2.1)).setCell ⟨b, off + k * 2 + 1, none⟩ (.slice z.1.1 z.2.2.length z.1.2)) B e src (some ⟨b, off, none⟩) n c (zs.set k z) := by
  have hl := h.len
  have h0 : off = 0 := by
    rcases h.row.2 with ⟨h2, _⟩ | ⟨g, cap, cur, hv, _⟩
    · cases h2
    · injection hv with hv
      injection hv with hv
      injection hv with _ hv
  subst h0
  refine ⟨?_, fun y hy => ?_⟩
  · rw [zC_set (by omega), Nat.zero_add]
    exact ((h.row.stored (k * 2) _).1.stored (k * 2 + 1) _).1
  · rcases List.mem_or_eq_of_mem_set hy with hy | hy
    · exact h.mem y hy
    · subst hy; exact hz
/-- what they read as -/
theorem Som.shr (h : Som w B e src A n c zs) (hd : ∀ z, z ∈ src → Rd wb B 1 z.1.1 z.2.2.length (bC z.2.2)) (hb : Below B wb w) (hB : B ≤ w.heap.size) : ShR w w.heap.size A n (zs.map fun z => z.2) := by
  have hl := h.len
  have hr := own_rd h.row
  refine ⟨by rw [List.length_map]; exact hl, hr.2.1, fun hn => ?_⟩
  obtain ⟨b, off, e', hlt, hc⟩ := hr.2.2 hn
  refine ⟨b, off, e', hlt, fun k hk => ?_⟩
  have hk' : k < zs.length := by rwa [List.length_map] at hk
  have g := zC_get hk'
  have e1 : (zs.map fun z => z.2)[k] = zs[k].2 := List.getElem_map _
  rw [e1]
  exact ⟨_, _, hc _ _ g.1, by rw [Nat.add_assoc]; exact hc _ _ g.2, ((hd _ (h.mem _ (List.getElem_mem hk'))).below hb (Nat.le_refl _)).mono hB⟩
end
theorem zip_get {hs : List (Option Addr × Nat)} {ss : List Sh} {j : Nat} (h1 : j < hs.length) (h2 : j < ss.length) : (hs[j], ss[j]) ∈ hs.zip ss := by
  have h : j < (hs.zip ss).length := by rw [List.length_zip]; omega
  have e : (hs.zip ss)[j] = (hs[j], ss[j]) := List.getElem_zip
  rw [← e]
  exact List.getElem_mem h
/-- shares of the call's own: the cells of one of them, and the bytes of all -/
theorem ShO.at_ {w : World} {lo e n c : Nat} {A : Option Addr} {hs : List (Option Addr × Nat)} {ss : List Sh} (h : ShO w lo e A n c hs ss) {j : Nat} (hj : j < n) : ∃ b off, A = some ⟨b, off, none⟩ ∧ lo ≤ b ∧ b < w.heap.size ∧ ∃ (hl : j < ss.length) (hl2 : j < hs.length),
    w.cell? ⟨b, off + j * 2, none⟩ = some (.int .i64 ss[j].1) ∧ w.cell? ⟨b, off + j * 2 + 1, none⟩ = some (.slice hs[j].1 ss[j].2.length hs[j].2) := by
  have hn := h.ssn
  have hl := h.len
  have ho := Ow.of_own h.row
  have hzl := shC_length hl
  obtain ⟨b, off, e1, h1, h2, h3, _⟩ := ho.at_ (j := j * 2) (by omega)
  obtain ⟨b', off', e2, _, _, h5, _⟩ := ho.at_ (j := j * 2 + 1) (by omega)
  rw [e1] at e2
  injection e2 with e2
  injection e2 with e2 e3
  subst e2; subst e3
  have g := shC_get hl (k := j) (by omega)
  refine ⟨b, off, e1, h1, h2, by omega, by omega, ?_, ?_⟩
  · rw [h3, ← g.1, List.getElem?_eq_getElem (by omega)]
  · rw [Nat.add_assoc, h5, ← g.2, List.getElem?_eq_getElem (by omega)]
theorem ShO.get {w : World} {lo e n c b off : Nat} {hs : List (Option Addr × Nat)} {ss : List Sh} (h : ShO w lo e (some ⟨b, off, none⟩) n c hs ss) {j : Nat} (hj : j < n) : ∃ (hl : j < ss.length) (hl2 : j < hs.length),
    w.cell? ⟨b, off + j * 2, none⟩ = some (.int .i64 ss[j].1) ∧ w.cell? ⟨b, off + j * 2 + 1, none⟩ = some (.slice hs[j].1 ss[j].2.length hs[j].2) := by
  obtain ⟨b', off', e1, _, _, h1⟩ := h.at_ hj
  injection e1 with e1
  injection e1 with e1 e2
  subst e1; subst e2
  exact h1
theorem ShO.all {w : World} {lo e n c : Nat} {A : Option Addr} {hs : List (Option Addr × Nat)} {ss : List Sh} (h : ShO w lo e A n c hs ss) : ∀ z, z ∈ hs.zip ss → Rd w w.heap.size 1 z.1.1 z.2.2.length (bC z.2.2) := by
  intro z hz
  obtain ⟨j, hj, rfl⟩ := List.getElem_of_mem hz
  rw [List.getElem_zip]
  have hj' : j < ss.length := by rw [List.length_zip] at hj; omega
  exact own_rd (h.data j hj')
theorem bend_set {ss : List Sh} {f : Nat} (hf : f < ss.length) (hl : 0 < ss[f].2.length) (v : UInt8) : ss.set f (ss[f].1, ss[f].2.set 0 (ss[f].2[0] ^^^ v)) = bendS ss f v := by
  unfold bendS
  refine List.ext_getElem? fun j => ?_
  rw [List.getElem?_set, List.getElem?_modify]
  by_cases e : f = j
  · subst e
    rw [if_pos rfl, if_pos hf, List.getElem?_eq_getElem hf]
    simp only [Option.map_some, if_true]
    congr 2
    generalize ss[f].2 = l at hl
    cases l with
    | nil => simp at hl
    | cons a l => rfl
  · rw [if_neg e]
    cases ss[j]? <;> simp [e]
/-- one byte is turned where it lies -/
theorem bend_shr {w : World} {lo e n c g goff : Nat} {A : Option Addr} {hs : List (Option Addr × Nat)} {ss : List Sh} (h : ShO w lo e A n c hs ss) (he : e ≠ 5) {f : Nat} (hf : f < ss.length) (hf2 : f < hs.length) (hl : 0 < ss[f].2.length) (eg : hs[f].1 = some ⟨g, goff, none⟩) (v : UInt8) :
    ShR (w.setCell ⟨g, goff, none⟩ (.int .u8 ((ss[f].2[0] ^^^ v).toNat : Int))) (w.setCell ⟨g, goff, none⟩ (.int .u8 ((ss[f].2[0] ^^^ v).toNat : Int))).heap.size A n (bendS ss f v) := by
  have hd := h.w.data f hf
  have ho := hd
  rw [eg] at ho
  have hs0 := ho.store (j := 0) (by rw [bC_length]; exact hl) (.int .u8 ((ss[f].2[0] ^^^ v).toNat : Int))
  rw [← bC_set] at hs0
  have hg : w.grownBy (w.setCell ⟨g, goff, none⟩ (.int .u8 ((ss[f].2[0] ^^^ v).toNat : Int))) (some g) := only_setCell (World.grownBy.refl w _) (.inl rfl) _
  have hk := h.w.setD (w' := w.setCell ⟨g, goff, none⟩ (.int .u8 ((ss[f].2[0] ^^^ v).toNat : Int))) (k := f) he hf (ss[f].2.set 0 (ss[f].2[0] ^^^ v)) (by rw [List.length_set]) (by rw [List.length_set]; exact hl) (Nat.le_refl _) (by rw [eg]; exact hs0) (by rw [eg]; exact hg)
  rw [bend_set hf hl] at hk
  exact hk.rd.mono (by rw [World.size_setCell]; exact Nat.le_refl _)
/-- what any k of them give, if they are alike -/
theorem some_of {seed : Int} {K : Nat} {l : List UInt8} {hs : List (Option Addr × Nat)} {ss : List Sh} {zs : List Hz} (h : Spl seed K l ss) (hK : 1 ≤ K) (hm : ∀ z, z ∈ zs → z ∈ hs.zip ss) (hok : cbOk (zs.map fun z => z.2) (K : Int) = true) : cbR (zs.map fun z => z.2) (K : Int) = l := by
  refine cb_of (seed := seed) (fun j hj => ?_) hK hok
  have hj' : j < zs.length := by rwa [List.length_map] at hj
  rw [List.getElem_map]
  obtain ⟨i, hi, e⟩ := List.getElem_of_mem (hm _ (List.getElem_mem hj'))
  rw [List.getElem_zip] at e
  have hi' : i < ss.length := by rw [List.length_zip] at hi; omega
  have e2 : zs[j].2 = ss[i] := by rw [← e]
  rw [e2]
  exact h.of i hi'
end Go.Proofs.Ytgkjgaijjihmgaa
