/- Slices of shares that are made, grown, written, marked; there is no program here. -/
import Derived.Test.YtgkjgaijjihmgaaMem4
import Derived.Test.YtgkjgaijjihmgaaA2
namespace Go.Proofs.Ytgkjgaijjihmgaa
open Go.RowKit
theorem own_keep {w w' : World} {base e size n c : Nat} {A : Option Addr} {xs : List Value} (h : w.ownsRow base e size (.slice A n c) n xs) (hk : ∀ a, A = some a → w'.heap[a.block]? = w.heap[a.block]?) : w'.ownsRow base e size (.slice A n c) n xs := by
  refine ⟨h.1, ?_⟩
  rcases h.2 with h2 | ⟨g, cap, cur, hv, hb, hg, r⟩
  · exact .inl h2
  · refine .inr ⟨g, cap, cur, hv, hb, ?_, r⟩
    injection hv with hv
    exact (hk _ hv).trans hg
theorem own_type {w : World} {base e size n c : Nat} {a : Addr} {xs : List Value} (h : w.ownsRow base e size (.slice (some a) n c) n xs) : ∃ cur, w.heap[a.block]? = some (.cells cur e (0, 0)) ∧ base ≤ a.block := by
  rcases h.2 with ⟨h2, _⟩ | ⟨g, cap, cur, hv, hb, hg, _⟩
  · cases h2
  · injection hv with hv
    injection hv with hv
    subst hv
    exact ⟨cur, hg, hb⟩
theorem own_lt {w : World} {base e size n c : Nat} {a : Addr} {xs : List Value} (h : w.ownsRow base e size (.slice (some a) n c) n xs) : a.block < w.heap.size := by
  obtain ⟨cur, h, _⟩ := own_type h
  exact (Array.getElem?_eq_some_iff.1 h).1
theorem apart_type {w : World} {g g' e e' : Nat} {c c' : Array Value} {f f' : Nat × Nat} (h : w.heap[g]? = some (.cells c e f)) (h' : w.heap[g']? = some (.cells c' e' f')) (hne : e ≠ e') : g ≠ g' := by
  rintro rfl
  rw [h] at h'
  injection h' with h'
  injection h' with _ h'
  exact hne h'
theorem ShO.nil (w : World) (lo e : Nat) : ShO w lo e none 0 0 [] [] :=
  ⟨rfl, World.ownsRow_nil _ _ _ _, fun k h => absurd h (by simp), fun i j hi => absurd hi (by simp)⟩
theorem ShO.below {w w' : World} {lo e n c : Nat} {A : Option Addr} {hs : List (Option Addr × Nat)} {ss : List Sh} (h : ShO w lo e A n c hs ss) (hb : Below w.heap.size w w') : ShO w' lo e A n c hs ss :=
  ⟨h.len, own_keep h.row fun a ha => hb.block _ (by subst ha; exact own_lt h.row), fun k hk => own_keep (h.data k hk) fun a ha => hb.block _ (by
    have hd := h.data k hk
    rw [ha] at hd
    exact own_lt hd), h.apart⟩
theorem ShO.mono {w : World} {lo lo' e n c : Nat} {A : Option Addr} {hs : List (Option Addr × Nat)} {ss : List Sh} (h : ShO w lo e A n c hs ss) (hl : lo' ≤ lo) : ShO w lo' e A n c hs ss :=
  ⟨h.len, own_mono h.row hl, fun k hk => own_mono (h.data k hk) hl, h.apart⟩
/-- one more share, its bytes made by w1, the row grown from w1 to w2 -/
theorem ShO.push {w w1 w2 : World} {lo e n c c' c1 : Nat} {A A' A1 : Option Addr} {hs : List (Option Addr × Nat)} {ss : List Sh} {s : Sh} (h : ShO w lo e A n c hs ss) (he : e ≠ 5) (hlo : lo ≤ w.heap.size)
    (hb : Below w.heap.size w w1) (hd : w1.ownsRow w.heap.size 5 1 (.slice A1 s.2.length c1) s.2.length (bC s.2))
    (hr : w2.ownsRow lo e 2 (.slice A' (n + 1) c') (n + 1) (shC hs ss ++ [.int .i64 s.1, .slice A1 s.2.length c1])) (hg : w1.grownBy w2 (Value.slice A n c).ownBlock) :
    ShO w2 lo e A' (n + 1) c' (hs ++ [(A1, c1)]) (ss ++ [s]) := by
  have h1 := h.below hb
  have key : ∀ {base m cc : Nat} {D : Option Addr} {xs : List Value}, w1.ownsRow base 5 1 (.slice D m cc) m xs → w2.ownsRow base 5 1 (.slice D m cc) m xs := by
    intro base m cc D xs hx
    refine own_keep hx fun a ha => ?_
    subst ha
    obtain ⟨cur, ht, _⟩ := own_type hx
    refine hg.block _ (own_lt hx) ?_
    cases A with
    | none => simp [Value.ownBlock]
    | some a' =>
      obtain ⟨cur', ht', _⟩ := own_type h1.row
      have := apart_type ht ht' (Ne.symm he)
      simpa [Value.ownBlock] using fun e => this e
  refine ⟨by simp [h.len], by rw [shC_snoc h.len]; exact hr, ?_, ?_⟩
  · intro k hk
    by_cases hlt : k < ss.length
    · have e1 : (ss ++ [s])[k] = ss[k] := List.getElem_append_left hlt
      have e2 : (hs ++ [(A1, c1)])[k]'(by simp [h.len]; omega) = hs[k]'(by rw [h.len]; exact hlt) := List.getElem_append_left _
      rw [e1, e2]
      exact key (h1.data k hlt)
    · have hk' : k = ss.length := by simp at hk; omega
      subst hk'
      have e1 : (ss ++ [s])[ss.length] = s := by simp
      have e2 : (hs ++ [(A1, c1)])[ss.length]'(by simp [h.len]) = (A1, c1) := by
        have := h.len
        simp [← this]
      rw [e1, e2]
      exact key (own_mono hd hlo)
  · intro i j hi hj a b hij ha hb'
    have hl := h.len
    simp at hi hj
    have old : ∀ (m : Nat) (hm : m < hs.length) (x : Addr), hs[m].1 = some x → x.block < w.heap.size := by
      intro m hm x hx
      have hd := h.data m (by omega)
      rw [hx] at hd
      exact own_lt hd
    have new : ∀ (x : Addr), A1 = some x → w.heap.size ≤ x.block := by
      intro x hx
      subst hx
      obtain ⟨_, _, h3⟩ := own_type hd
      exact h3
    by_cases h1 : i < hs.length <;> by_cases h2 : j < hs.length
    · rw [List.getElem_append_left h1] at ha
      rw [List.getElem_append_left h2] at hb'
      exact h.apart i j h1 h2 a b hij ha hb'
    · rw [List.getElem_append_left h1] at ha
      rw [List.getElem_append_right (by omega)] at hb'
      have := old i h1 a ha
      have := new b (by simpa using hb')
      omega
    · rw [List.getElem_append_right (by omega)] at ha
      rw [List.getElem_append_left h2] at hb'
      have := old j h2 b hb'
      have := new a (by simpa using ha)
      omega
    · omega
theorem shC_set {hs : List (Option Addr × Nat)} {ss : List Sh} (h : hs.length = ss.length) {k : Nat} (hk : k < ss.length) (p : Option Addr × Nat) (s : Sh) :
    shC (hs.set k p) (ss.set k s) = ((shC hs ss).set (k * 2) (.int .i64 s.1)).set (k * 2 + 1) (.slice p.1 s.2.length p.2) := by
  induction ss generalizing hs k with
  | nil => simp at hk
  | cons s0 ss ih =>
    cases hs with
    | nil => simp at h
    | cons p0 hs =>
      cases k with
      | zero => rfl
      | succ k =>
        have := ih (hs := hs) (by simpa using h) (k := k) (by simpa using hk)
        have e : ∀ (p : Option Addr × Nat) (s : Sh) hs ss, shC (p :: hs) (s :: ss) = .int .i64 s.1 :: .slice p.1 s.2.length p.2 :: shC hs ss := fun _ _ _ _ => rfl
        simp only [List.set_cons_succ, e, this]
        rw [show (k + 1) * 2 = k * 2 + 1 + 1 from by omega]
        simp only [List.set_cons_succ]
/-- a share is put in at place k -/
theorem ShO.put {w w1 : World} {lo e n c c1 b k : Nat} {A1 : Option Addr} {hs : List (Option Addr × Nat)} {ss : List Sh} {s : Sh} (h : ShO w lo e (some ⟨b, 0, none⟩) n c hs ss) (he : e ≠ 5) (hlo : lo ≤ w.heap.size) (hk : k < n)
    (hb : Below w.heap.size w w1) (hd : w1.ownsRow w.heap.size 5 1 (.slice A1 s.2.length c1) s.2.length (bC s.2)) :
    ShO ((w1.setCell ⟨b, k * 2, none⟩ (.int .i64 s.1)).setCell ⟨b, k * 2 + 1, none⟩ (.slice A1 s.2.length c1)) lo e (some ⟨b, 0, none⟩) n c (hs.set k (A1, c1)) (ss.set k s) := by
  have h1 := h.below hb
  have hl := h.len
  have hn := h.ssn
  obtain ⟨cb, htb, _⟩ := own_type h1.row
  have s1 := (h1.row.stored (k * 2) (.int .i64 s.1)).1
  have s2 := (s1.stored (k * 2 + 1) (.slice A1 s.2.length c1)).1
  have key : ∀ {base m cc : Nat} {D : Option Addr} {xs : List Value}, w1.ownsRow base 5 1 (.slice D m cc) m xs → ((w1.setCell ⟨b, k * 2, none⟩ (.int .i64 s.1)).setCell ⟨b, k * 2 + 1, none⟩ (.slice A1 s.2.length c1)).ownsRow base 5 1 (.slice D m cc) m xs := by
    intro base m cc D xs hx
    refine own_keep hx fun a ha => ?_
    subst ha
    obtain ⟨cur, ht, _⟩ := own_type hx
    have hne := apart_type ht htb (Ne.symm he)
    rw [Below.heap_setCell _ _ _ _ (by exact hne), Below.heap_setCell _ _ _ _ (by exact hne)]
  refine ⟨by simp [hl], by rw [shC_set hl (by omega)]; exact s2, ?_, ?_⟩
  · intro j hj
    rw [List.length_set] at hj
    by_cases hjk : k = j
    · subst hjk
      simp only [List.getElem_set_self]
      exact key (own_mono hd hlo)
    · simp only [List.getElem_set_ne hjk]
      exact key (h1.data j hj)
  · intro i j hi hj a b' hij ha hb'
    rw [List.length_set] at hi hj
    have old : ∀ (m : Nat) (hm : m < hs.length) (x : Addr), hs[m].1 = some x → x.block < w.heap.size := by
      intro m hm x hx
      have hd := h.data m (by omega)
      rw [hx] at hd
      exact own_lt hd
    have new : ∀ (x : Addr), A1 = some x → w.heap.size ≤ x.block := by
      intro x hx
      subst hx
      obtain ⟨_, _, h3⟩ := own_type hd
      exact h3
    by_cases h1 : k = i
    · subst h1
      simp only [List.getElem_set_self] at ha
      simp only [List.getElem_set_ne hij] at hb'
      have := new a ha
      have := old j hj b' hb'
      omega
    · simp only [List.getElem_set_ne h1] at ha
      by_cases h2 : k = j
      · subst h2
        simp only [List.getElem_set_self] at hb'
        have := new b' hb'
        have := old i hi a ha
        omega
      · simp only [List.getElem_set_ne h2] at hb'
        exact h.apart i j hi hj a b' hij ha hb'
/-! shares that may be written, from lo to hi -/
structure ShW (w : World) (lo hi e : Nat) (A : Option Addr) (n : Nat) (hs : List (Option Addr × Nat)) (ss : List Sh) : Prop where
  len : hs.length = ss.length
  row : Ow w lo hi e 2 A n (shC hs ss)
  data : ∀ (k : Nat) (h : k < ss.length), Ow w lo hi 5 1 (hs[k]'(by omega)).1 ss[k].2.length (bC ss[k].2)
  apart : ∀ (i j : Nat) (hi : i < hs.length) (hj : j < hs.length) (a b : Addr), i ≠ j → hs[i].1 = some a → hs[j].1 = some b → a.block ≠ b.block
theorem ShO.w {w : World} {lo e n c : Nat} {A : Option Addr} {hs : List (Option Addr × Nat)} {ss : List Sh} (h : ShO w lo e A n c hs ss) : ShW w lo w.heap.size e A n hs ss :=
  ⟨h.len, Ow.of_own h.row, fun k hk => Ow.of_own (h.data k hk), h.apart⟩
section
variable {w w' : World} {lo hi lo' hi' e n : Nat} {A : Option Addr} {hs : List (Option Addr × Nat)} {ss : List Sh}
theorem ShW.ssn (h : ShW w lo hi e A n hs ss) : ss.length = n := by
  have := h.row.1
  rw [shC_length h.len] at this
  omega
theorem ShW.rd (h : ShW w lo hi e A n hs ss) : ShR w hi A n ss := by
  have hr := h.row.rd
  refine ⟨h.ssn, hr.2.1, fun hn => ?_⟩
  obtain ⟨b, off, e', hb, hc⟩ := hr.2.2 hn
  refine ⟨b, off, e', hb, fun k hk => ?_⟩
  have hg := shC_get h.len hk
  exact ⟨_, _, hc _ _ hg.1, by rw [Nat.add_assoc]; exact hc _ _ hg.2, (h.data k hk).rd⟩
theorem ShW.keep (h : ShW w lo hi e A n hs ss) (hk : ∀ b, lo ≤ b → b < hi → w'.heap[b]? = w.heap[b]?) : ShW w' lo hi e A n hs ss :=
  ⟨h.len, h.row.keep hk, fun k hk' => (h.data k hk').keep hk, h.apart⟩
theorem ShW.below {B : Nat} (h : ShW w lo hi e A n hs ss) (hb : Below B w w') (hB : hi ≤ B) : ShW w' lo hi e A n hs ss := h.keep fun b _ hlt => hb.block b (by omega)
theorem ShW.chg {lo' hi' : Nat} (h : ShW w lo hi e A n hs ss) (hb : Chg lo' hi' w w') (hB : hi ≤ lo' ∨ hi' ≤ lo) : ShW w' lo hi e A n hs ss := h.keep fun b h1 h2 => hb.block b (by omega)
theorem ShW.mono (h : ShW w lo hi e A n hs ss) (hl : lo' ≤ lo) (hh : hi ≤ hi') : ShW w lo' hi' e A n hs ss :=
  ⟨h.len, h.row.mono hl hh, fun k hk' => (h.data k hk').mono hl hh, h.apart⟩
theorem Ow.keepb {size : Nat} {xs : List Value} (h : Ow w lo hi e size A n xs) (hk : ∀ a, A = some a → w'.heap[a.block]? = w.heap[a.block]?) : Ow w' lo hi e size A n xs :=
  ⟨h.1, h.2.1, fun hn => by
    obtain ⟨b, off, cur, e, hl, hb, hh, hc⟩ := h.2.2 hn
    exact ⟨b, off, cur, e, hl, hb, (hk _ e).trans hh, hc⟩⟩
/-- the number of share k is written -/
theorem ShW.setX {b off k : Nat} (h : ShW w lo hi e (some ⟨b, off, none⟩) n hs ss) (he : e ≠ 5) (hk : k < n) (x : Int) :
    ShW (w.setCell ⟨b, off + k * 2, none⟩ (.int .i64 x)) lo hi e (some ⟨b, off, none⟩) n hs (ss.set k (x, (ss[k]'(by rw [h.ssn]; exact hk)).2)) := by
  have hn := h.ssn
  have hl := h.len
  have hkl : k < ss.length := by omega
  obtain ⟨b', off', cur, e', hl', hb', hh, hc⟩ := h.row.2.2 (by omega)
  injection e' with e'
  injection e' with e1 e2
  subst e1; subst e2
  have hset : (shC hs ss).set (k * 2) (.int .i64 x) = shC hs (ss.set k (x, ss[k].2)) := by
    have h1 := shC_set hl hkl (hs[k]'(by omega)) (x, ss[k].2)
    rw [List.set_getElem_self] at h1
    rw [h1]
    have h2 := (shC_get hl hkl).2
    refine List.ext_getElem? fun i => ?_
    rw [List.getElem?_set (i := k * 2 + 1)]
    split
    · rename_i hi
      subst hi
      rw [if_pos (by rw [List.length_set, shC_length hl]; omega), List.getElem?_set_ne (by omega), h2]
    · rfl
  refine ⟨by rw [List.length_set]; exact hl, ?_, ?_, h.apart⟩
  · rw [← hset]
    exact h.row.store (by rw [shC_length hl]; omega) _
  · intro j hj
    rw [List.length_set] at hj
    have hd := h.data j hj
    have hlen : ((ss.set k (x, ss[k].2))[j]'(by rw [List.length_set]; exact hj)).2 = ss[j].2 := by
      by_cases e : k = j
      · subst e; simp
      · rw [List.getElem_set_ne e]
    rw [hlen]
    rcases Nat.eq_zero_or_pos ss[j].2.length with h0 | h0
    · refine ⟨hd.1, hd.2.1, fun h => absurd h (by omega)⟩
    · obtain ⟨d, doff, dcur, de, dl, dh, dhh, _⟩ := hd.2.2 h0
      refine hd.keepb fun a ha => ?_
      rw [de] at ha
      injection ha with ha
      subst ha
      exact Below.heap_setCell _ _ _ _ (by exact apart_type dhh hh (Ne.symm he))
/-- the bytes of share k are written -/
theorem ShW.setD {k : Nat} (h : ShW w lo hi e A n hs ss) (he : e ≠ 5) (hk : k < ss.length) (l : List UInt8) (hll : l.length = ss[k].2.length) (h0 : 0 < l.length) (hz : hi ≤ w.heap.size)
    (ho : Ow w' lo hi 5 1 (hs[k]'(by rw [h.len]; exact hk)).1 ss[k].2.length (bC l)) (hg : w.grownBy w' ((hs[k]'(by rw [h.len]; exact hk)).1.map (·.block))) : ShW w' lo hi e A n hs (ss.set k (ss[k].1, l)) := by
  have hl := h.len
  obtain ⟨d, doff, dcur, de, dl, dh, dhh, _⟩ := (h.data k hk).2.2 (by omega)
  rw [de] at hg
  have blk : ∀ g, g < w.heap.size → g ≠ d → w'.heap[g]? = w.heap[g]? := fun g h1 h2 => hg.block g h1 (by simpa using fun e => h2 e)
  have hset : shC hs (ss.set k (ss[k].1, l)) = shC hs ss := by
    have h1 := shC_set hl hk (hs[k]'(by omega)) (ss[k].1, l)
    rw [List.set_getElem_self] at h1
    rw [h1]
    have h2 := shC_get hl hk
    refine List.ext_getElem? fun i => ?_
    simp only [hll]
    rw [List.getElem?_set (i := k * 2 + 1), List.getElem?_set (i := k * 2)]
    split
    · rename_i hi
      subst hi
      rw [if_pos (by rw [List.length_set, shC_length hl]; omega), h2.2]
    · split
      · rename_i hi
        subst hi
        rw [if_pos (by rw [shC_length hl]; omega), h2.1]
      · rfl
  refine ⟨by rw [List.length_set]; exact hl, ?_, ?_, h.apart⟩
  · rw [hset]
    rcases Nat.eq_zero_or_pos n with h0 | h0
    · exact ⟨h.row.1, h.row.2.1, fun h => absurd h (by omega)⟩
    · obtain ⟨b, off, cur, e', hl', hb', hh, hc⟩ := h.row.2.2 h0
      refine h.row.keepb fun a ha => ?_
      rw [e'] at ha
      injection ha with ha
      subst ha
      exact blk _ (by show b < _; omega) (apart_type hh dhh he)
  · intro j hj
    rw [List.length_set] at hj
    by_cases e : k = j
    · subst e
      simp only [List.getElem_set_self, hll]
      exact ho
    · simp only [List.getElem_set_ne e]
      have hd := h.data j hj
      rcases Nat.eq_zero_or_pos ss[j].2.length with h0 | h0
      · exact ⟨hd.1, hd.2.1, fun h => absurd h (by omega)⟩
      · obtain ⟨g, goff, gcur, ge, gl, gh, ghh, _⟩ := hd.2.2 h0
        have hne := h.apart k j (by omega) (by omega) _ _ e de ge
        refine hd.keepb fun a ha => ?_
        rw [ge] at ha
        injection ha with ha
        subst ha
        exact blk _ (by show g < _; omega) (fun e => hne e.symm)
end
/-- what marking leaves -/
def markS (k : Int) : List Sh → List Sh
  | [] => []
  | s :: ss => (k, markB (k + 1) s.2.length) :: markS (k + 1 + s.2.length) ss
def cntS : List Sh → Nat
  | [] => 0
  | s :: ss => 1 + s.2.length + cntS ss
theorem markS_length (k : Int) (ss : List Sh) : (markS k ss).length = ss.length := by
  induction ss generalizing k with
  | nil => rfl
  | cons s ss ih => simp only [markS, List.length_cons, ih]
theorem cntS_append (a b : List Sh) : cntS (a ++ b) = cntS a + cntS b := by
  induction a with
  | nil => simp [cntS]
  | cons s a ih => simp only [List.cons_append, cntS, ih]; omega
theorem markS_append (k : Int) (a b : List Sh) : markS k (a ++ b) = markS k a ++ markS (k + cntS a) b := by
  induction a generalizing k with
  | nil => simp [markS, cntS]
  | cons s a ih =>
    simp only [List.cons_append, markS, cntS, ih]
    rw [show k + 1 + (s.2.length : Int) + (cntS a : Int) = k + ((1 + s.2.length + cntS a : Nat) : Int) from by omega]
theorem cntS_take_succ {ss : List Sh} {k : Nat} (h : k < ss.length) : cntS (ss.take (k + 1)) = cntS (ss.take k) + (1 + ss[k].2.length) := by
  rw [List.take_succ_eq_append_getElem h, cntS_append]
  simp [cntS]
theorem cntS_take_le (ss : List Sh) (k : Nat) : cntS (ss.take k) ≤ cntS ss := by
  conv => rhs; rw [← List.take_append_drop k ss, cntS_append]
  omega
theorem markS_get (k : Int) {ss : List Sh} {j : Nat} (h : j < ss.length) : (markS k ss)[j]'(by rw [markS_length]; exact h) = (k + cntS (ss.take j), markB (k + cntS (ss.take j) + 1) ss[j].2.length) := by
  induction ss generalizing k j with
  | nil => simp at h
  | cons s ss ih =>
    cases j with
    | zero => simp [markS, cntS]
    | succ j =>
      have hj : j < ss.length := by simpa using h
      simp only [markS, List.getElem_cons_succ, ih _ hj, List.take_succ_cons, cntS]
      rw [show k + 1 + (s.2.length : Int) + (cntS (ss.take j) : Int) = k + ((1 + s.2.length + cntS (ss.take j) : Nat) : Int) from by omega]
theorem cntS_mark (k : Int) (ss : List Sh) : cntS (markS k ss) = cntS ss := by
  induction ss generalizing k with
  | nil => rfl
  | cons s ss ih => simp only [markS, cntS, ih, markB_length]
/-- marked up to place j -/
def mid (k : Int) (ss : List Sh) (j : Nat) : List Sh := over (markS k ss) ss j
theorem mid_length (k : Int) (ss : List Sh) (j : Nat) : (mid k ss j).length = ss.length := over_length (markS_length k ss)
theorem mid_zero (k : Int) (ss : List Sh) : mid k ss 0 = ss := over_zero _ _
theorem mid_all (k : Int) (ss : List Sh) : mid k ss ss.length = markS k ss := by
  have := over_all (markS_length k ss)
  rwa [markS_length] at this
theorem mid_get (k : Int) {ss : List Sh} {j : Nat} (h : j < ss.length) : (mid k ss j)[j]'(by rw [mid_length]; exact h) = ss[j] := by
  have := over_get (markS_length k ss) h
  rw [List.getElem?_eq_getElem (by rw [over_length (markS_length k ss)]; exact h)] at this
  injection this
theorem mid_set (k : Int) {ss : List Sh} {j : Nat} (h : j < ss.length) : (mid k ss j).set j (k + cntS (ss.take j), markB (k + cntS (ss.take j) + 1) ss[j].2.length) = mid k ss (j + 1) := by
  have := over_set (markS_length k ss) (j := j) (by rw [markS_length]; exact h)
  rw [markS_get k h] at this
  exact this
end Go.Proofs.Ytgkjgaijjihmgaa
