/- Merging policies: what the merged rules are, and which rule a path has in them; there is no program here and no condition. -/
import Derived.Test.YtmjmjloiblbhcaaDoorQ6
namespace Go.Proofs.YtmjmjloiblbhcaaDoor
theorem bl_irrefl : ∀ x : List UInt8, Op.bytesLess x x = false
  | [] => rfl
  | a :: x => by rw [Op.bytesLess, bl_irrefl x]; simp
theorem bl_trans : ∀ {x y z : List UInt8}, Op.bytesLess x y = true → Op.bytesLess y z = true → Op.bytesLess x z = true
  | [], [], _, h, _ => by cases h
  | [], _ :: _, [], _, h => by cases h
  | [], _ :: _, _ :: _, _, _ => rfl
  | _ :: _, [], _, h, _ => by cases h
  | _ :: _, _ :: _, [], _, h => by cases h
  | a :: x, b :: y, c :: z, h1, h2 => by
    simp only [Op.bytesLess, Bool.or_eq_true, Bool.and_eq_true, decide_eq_true_eq, beq_iff_eq] at h1 h2 ⊢
    rcases h1 with h1 | ⟨rfl, h1⟩
    · rcases h2 with h2 | ⟨rfl, h2⟩
      · exact .inl (UInt8.lt_trans h1 h2)
      · exact .inl h1
    · rcases h2 with h2 | ⟨rfl, h2⟩
      · exact .inl h2
      · exact .inr ⟨rfl, bl_trans h1 h2⟩
theorem bl_tri : ∀ {x y : List UInt8}, Op.bytesLess x y = false → Op.bytesLess y x = false → x = y
  | [], [], _, _ => rfl
  | [], _ :: _, h, _ => by cases h
  | _ :: _, [], _, h => by cases h
  | a :: x, b :: y, h1, h2 => by
    simp only [Op.bytesLess, Bool.or_eq_false_iff, Bool.and_eq_false_iff, decide_eq_false_iff_not] at h1 h2
    have hab : a = b := by
      have i1 : ¬ a.toNat < b.toNat := h1.1
      have i2 : ¬ b.toNat < a.toNat := h2.1
      exact UInt8.toNat_inj.1 (by omega)
    subst hab
    have e1 := h1.2.resolve_left (by simp)
    have e2 := h2.2.resolve_left (by simp)
    rw [bl_tri e1 e2]
theorem toL_ (s : ByteArray) : s.toList = s.data.toList := Lib.toList_data s
theorem ltB_irrefl (a : ByteArray) : ltB a a = false := bl_irrefl _
theorem ltB_trans {a b c : ByteArray} (h : ltB a b = true) (k : ltB b c = true) : ltB a c = true := bl_trans h k
theorem ltB_tri {a b : ByteArray} (h : ltB a b = false) (k : ltB b a = false) : a = b := by
  have := bl_tri h k
  rw [toL_, toL_] at this
  exact ext_data this
theorem ltB_asymm {a b : ByteArray} (h : ltB a b = true) : ltB b a = false := by
  cases e : ltB b a with
  | false => rfl
  | true => have := ltB_trans h e; rw [ltB_irrefl] at this; cases this
/-- rules in order -/
def srt (l : List Rl) : Prop := l.Pairwise fun a b => ltB a.1 b.1 = true
theorem srt_of : ∀ {l : List Rl}, (∀ k (h : k + 1 < l.length), ltB l[k].1 l[k + 1].1 = true) → srt l
  | [], _ => .nil
  | [x], _ => by simp [srt]
  | x :: y :: t, h => by
    have ih : srt (y :: t) := srt_of fun k hk => h (k + 1) (by simp at hk ⊢; omega)
    have h0 : ltB x.1 y.1 = true := h 0 (by simp)
    refine List.pairwise_cons.2 ⟨fun z hz => ?_, ih⟩
    rcases List.mem_cons.1 hz with rfl | hz
    · exact h0
    · exact ltB_trans h0 ((List.pairwise_cons.1 ih).1 z hz)
theorem pol_srt {nm : ByteArray} {rs : List Rl} (hp : polB nm rs = true) : srt rs := srt_of fun k hk => by
  have := (polB_true.1 hp).2.2 (k + 1) hk
  rw [ruleOk_succ hk] at this
  simp only [Bool.and_eq_true] at this
  exact this.2.2
def orR (x y : Int) : Int := bits .or .i64 x y
/-- a rule put into rules -/
def insR : List Rl → Rl → List Rl
  | [], r => [r]
  | x :: t, r => if ltB x.1 r.1 then x :: insR t r else if ltB r.1 x.1 then r :: x :: t else (x.1, orR x.2 r.2) :: t
theorem insR_length : ∀ (l : List Rl) (r : Rl), (insR l r).length ≤ l.length + 1
  | [], _ => by simp [insR]
  | x :: t, r => by
    have := insR_length t r
    unfold insR
    split
    · simp; omega
    · split <;> simp
theorem insR_all {P : ByteArray → Prop} : ∀ {l : List Rl} {r : Rl}, (∀ x ∈ l, P x.1) → P r.1 → ∀ x ∈ insR l r, P x.1
  | [], r, _, hr, x, hx => by
    simp only [insR, List.mem_singleton] at hx
    rw [hx]; exact hr
  | y :: t, r, h, hr, x, hx => by
    unfold insR at hx
    split at hx
    · rcases List.mem_cons.1 hx with rfl | hx
      · exact h _ (by simp)
      · exact insR_all (fun z hz => h z (List.mem_cons_of_mem _ hz)) hr x hx
    · split at hx
      · rcases List.mem_cons.1 hx with rfl | hx
        · exact hr
        · exact h x hx
      · rcases List.mem_cons.1 hx with rfl | hx
        · exact h y (by simp)
        · exact h x (List.mem_cons_of_mem _ hx)
theorem insR_srt : ∀ {l : List Rl} {r : Rl}, srt l → srt (insR l r)
  | [], r, _ => by simp [srt, insR]
  | y :: t, r, h => by
    obtain ⟨h1, h2⟩ := List.pairwise_cons.1 h
    unfold insR
    cases hyr : ltB y.1 r.1
    · rw [if_neg (by simp)]
      cases hry : ltB r.1 y.1
      · rw [if_neg (by simp)]
        exact List.pairwise_cons.2 ⟨h1, h2⟩
      · rw [if_pos rfl]
        refine List.pairwise_cons.2 ⟨fun z hz => ?_, h⟩
        rcases List.mem_cons.1 hz with rfl | hz
        · exact hry
        · exact ltB_trans hry (h1 z hz)
    · rw [if_pos rfl]
      exact List.pairwise_cons.2 ⟨insR_all (P := fun g => ltB y.1 g = true) h1 hyr, insR_srt h2⟩
/-- where the rule stands, if it is there -/
theorem insR_found : ∀ {l : List Rl} {r : Rl} {i : Nat} (hi : i < l.length), (∀ j (hj : j < l.length), j < i → ltB l[j].1 r.1 = true) → l[i].1 = r.1 → insR l r = l.set i (l[i].1, orR l[i].2 r.2)
  | x :: t, r, 0, _, _, he => by
    have he : x.1 = r.1 := he
    unfold insR
    rw [he, ltB_irrefl]
    simp [he]
  | x :: t, r, i + 1, hi, h, he => by
    have h0 : ltB x.1 r.1 = true := h 0 (by simp) (by omega)
    unfold insR
    rw [if_pos h0, insR_found (i := i) (by simpa using hi) (fun j hj hji => h (j + 1) (by simpa using hj) (by omega)) he]
    rfl
theorem insR_new : ∀ {l : List Rl} {r : Rl} {i : Nat}, i ≤ l.length → (∀ j (hj : j < l.length), j < i → ltB l[j].1 r.1 = true) → (∀ hi : i < l.length, ltB l[i].1 r.1 = false ∧ l[i].1 ≠ r.1) → insR l r = l.take i ++ r :: l.drop i
  | [], r, i, hi, _, _ => by
    have : i = 0 := by simpa using hi
    subst this; rfl
  | x :: t, r, 0, _, _, h => by
    obtain ⟨h1, h2⟩ := h (by simp)
    have h1 : ltB x.1 r.1 = false := h1
    have h3 : ltB r.1 x.1 = true := by
      cases e : ltB r.1 x.1 with
      | true => rfl
      | false => exact absurd (ltB_tri h1 e) h2
    unfold insR
    rw [h1, h3]; rfl
  | x :: t, r, i + 1, hi, h, hd => by
    have h0 : ltB x.1 r.1 = true := h 0 (by simp) (by omega)
    unfold insR
    rw [if_pos h0, insR_new (i := i) (by simpa using hi) (fun j hj hji => h (j + 1) (by simpa using hj) (by omega)) (fun hi => hd (by simpa using hi))]
    rfl
/-- the rules of two policies, merged -/
def mg (a b : List Rl) : List Rl := b.foldl insR a
theorem mg_nil (a : List Rl) : mg a [] = a := rfl
theorem mg_cons (a : List Rl) (r : Rl) (b : List Rl) : mg a (r :: b) = mg (insR a r) b := rfl
theorem mg_length : ∀ (a b : List Rl), (mg a b).length ≤ a.length + b.length
  | a, [] => by simp [mg]
  | a, r :: b => by
    have h1 := mg_length (insR a r) b
    have h2 := insR_length a r
    rw [mg_cons]; simp; omega
theorem mg_take {a b : List Rl} {k : Nat} (h : k < b.length) : mg a (b.take (k + 1)) = insR (mg a (b.take k)) b[k] := by
  unfold mg
  rw [List.take_succ_eq_append_getElem h, List.foldl_append]; rfl
theorem mg_srt : ∀ {a b : List Rl}, srt a → srt (mg a b)
  | a, [], h => h
  | a, r :: b, h => mg_srt (a := insR a r) (insR_srt h)
theorem mg_all {P : ByteArray → Prop} : ∀ {a b : List Rl}, (∀ x ∈ a, P x.1) → (∀ x ∈ b, P x.1) → ∀ x ∈ mg a b, P x.1
  | a, [], h, _ => h
  | a, r :: b, h, k => mg_all (a := insR a r) (insR_all h (k r (by simp))) fun x hx => k x (List.mem_cons_of_mem _ hx)
theorem insR_nil (r : Rl) : insR [] r = [r] := rfl
theorem insR_gt {x r : Rl} {t : List Rl} (h : ltB x.1 r.1 = true) : insR (x :: t) r = x :: insR t r := by rw [insR, if_pos h]
theorem insR_lt {x r : Rl} {t : List Rl} (h : ltB r.1 x.1 = true) : insR (x :: t) r = r :: x :: t := by rw [insR, ltB_asymm h, if_neg (by simp), if_pos h]
theorem insR_eq {x r : Rl} {t : List Rl} (h : x.1 = r.1) : insR (x :: t) r = (x.1, orR x.2 r.2) :: t := by rw [insR, h, ltB_irrefl, if_neg (by simp), if_neg (by simp)]
/-- a least rule stays ahead -/
theorem mg_head : ∀ {x : Rl} {a b : List Rl}, (∀ y ∈ b, ltB x.1 y.1 = true) → mg (x :: a) b = x :: mg a b
  | _, _, [], _ => rfl
  | x, a, r :: b, h => by
    rw [mg_cons, mg_cons, insR_gt (h r (by simp)), mg_head fun y hy => h y (List.mem_cons_of_mem _ hy)]
theorem drop_eq {α : Type} {l : List α} {i : Nat} (h : i < l.length) : l.drop i = l[i] :: l.drop (i + 1) := List.drop_eq_getElem_cons h
theorem srt_drop {l : List Rl} {i : Nat} (h : srt l) (hi : i < l.length) : (∀ y ∈ l.drop (i + 1), ltB l[i].1 y.1 = true) := by
  have : srt (l.drop i) := h.sublist (List.drop_sublist i l)
  rw [drop_eq hi] at this
  exact (List.pairwise_cons.1 this).1
/-- the steps of the reference -/
theorem mg_stepA {a b : List Rl} {i k : Nat} (hb : srt b) (hi : i < a.length) (h : ∀ hk : k < b.length, ltB a[i].1 b[k].1 = true) : mg (a.drop i) (b.drop k) = a[i] :: mg (a.drop (i + 1)) (b.drop k) := by
  rw [drop_eq hi]
  refine mg_head fun y hy => ?_
  by_cases hk : k < b.length
  · rw [drop_eq hk] at hy
    rcases List.mem_cons.1 hy with rfl | hy
    · exact h hk
    · exact ltB_trans (h hk) (srt_drop hb hk y hy)
  · rw [List.drop_eq_nil_of_le (by omega)] at hy
    cases hy
theorem mg_stepB {a b : List Rl} {i k : Nat} (hb : srt b) (hk : k < b.length) (h : ∀ hi : i < a.length, ltB b[k].1 a[i].1 = true) : mg (a.drop i) (b.drop k) = b[k] :: mg (a.drop i) (b.drop (k + 1)) := by
  rw [drop_eq hk, mg_cons]
  have : insR (a.drop i) b[k] = b[k] :: a.drop i := by
    by_cases hi : i < a.length
    · rw [drop_eq hi, insR_lt (h hi)]
    · rw [List.drop_eq_nil_of_le (by omega)]; rfl
  rw [this]
  exact mg_head (srt_drop hb hk)
theorem mg_stepC {a b : List Rl} {i k : Nat} (hb : srt b) (hi : i < a.length) (hk : k < b.length) (h : a[i].1 = b[k].1) : mg (a.drop i) (b.drop k) = (a[i].1, orR a[i].2 b[k].2) :: mg (a.drop (i + 1)) (b.drop (k + 1)) := by
  rw [drop_eq hk, mg_cons, drop_eq hi, insR_eq h]
  exact mg_head fun y hy => by rw [h]; exact srt_drop hb hk y hy
/-! the rule of a path in the merged rules -/
theorem insR_any (f : ByteArray → Bool) : ∀ (l : List Rl) (r : Rl), ((insR l r).any fun x => f x.1) = ((l.any fun x => f x.1) || f r.1)
  | [], r => by simp [insR]
  | x :: t, r => by
    have ih := insR_any f t r
    unfold insR
    cases h1 : ltB x.1 r.1
    · cases h2 : ltB r.1 x.1
      · have := ltB_tri h1 h2
        simp only [Bool.false_eq_true, if_false, List.any_cons]
        rw [this]
        cases f r.1 <;> simp
      · simp only [Bool.false_eq_true, if_false, if_true, List.any_cons]
        rw [Bool.or_comm]
    · simp only [if_true, List.any_cons, ih, Bool.or_assoc]
theorem mg_any (f : ByteArray → Bool) : ∀ (a b : List Rl), ((mg a b).any fun x => f x.1) = ((a.any fun x => f x.1) || (b.any fun x => f x.1))
  | a, [] => by simp [mg]
  | a, r :: b => by rw [mg_cons, mg_any f, insR_any, List.any_cons, Bool.or_assoc]
theorem insR_keep {f : ByteArray → Bool} : ∀ {l : List Rl} {r : Rl}, f r.1 = false → (insR l r).filter (fun x => f x.1) = l.filter fun x => f x.1
  | [], r, h => by simp [insR, h]
  | x :: t, r, h => by
    unfold insR
    cases h1 : ltB x.1 r.1
    · cases h2 : ltB r.1 x.1
      · have := ltB_tri h1 h2
        have hx : f x.1 = false := by rw [this]; exact h
        simp [hx]
      · simp [h]
    · simp only [if_true, List.filter_cons, insR_keep (l := t) h]
theorem mg_keepA {f : ByteArray → Bool} : ∀ {a b : List Rl}, (b.any fun x => f x.1) = false → (mg a b).filter (fun x => f x.1) = a.filter fun x => f x.1
  | a, [], _ => rfl
  | a, r :: b, h => by
    simp only [List.any_cons, Bool.or_eq_false_iff] at h
    rw [mg_cons, mg_keepA h.2, insR_keep h.1]
theorem insR_last {f : ByteArray → Bool} : ∀ {l : List Rl} {r : Rl}, srt l → (∀ x ∈ l, f x.1 = true → ltB x.1 r.1 = true) → (insR l r).filter (fun x => f x.1) = (l.filter fun x => f x.1) ++ [r].filter fun x => f x.1
  | [], r, _, _ => by simp [insR]
  | x :: t, r, hs, h => by
    obtain ⟨h1, h2⟩ := List.pairwise_cons.1 hs
    have hx := h x (by simp)
    unfold insR
    cases e1 : ltB x.1 r.1
    · have hfx : f x.1 = false := by
        cases e : f x.1 with
        | false => rfl
        | true => have := hx e; rw [e1] at this; cases this
      have hft : t.filter (fun x => f x.1) = [] := by
        refine List.filter_eq_nil_iff.2 fun y hy e => ?_
        have h3 := h y (List.mem_cons_of_mem _ hy) e
        have := ltB_trans (h1 y hy) h3
        rw [e1] at this; cases this
      cases e2 : ltB r.1 x.1
      · have he := ltB_tri e1 e2
        have hfr : f r.1 = false := by rw [← he]; exact hfx
        simp [hfx, hfr]
      · simp only [Bool.false_eq_true, if_false, if_true, List.filter_cons, hfx, hft]
        simp
    · rw [if_pos rfl, List.filter_cons, List.filter_cons, insR_last h2 fun y hy => h y (List.mem_cons_of_mem _ hy)]
      split <;> simp
theorem mg_keepB {f : ByteArray → Bool} : ∀ {b a p : List Rl}, srt a → a.filter (fun x => f x.1) = p.filter (fun x => f x.1) → srt (p ++ b) → (mg a b).filter (fun x => f x.1) = (p ++ b).filter fun x => f x.1
  | [], a, p, _, h, _ => by rw [mg_nil, h, List.append_nil]
  | r :: b, a, p, hs, h, hp => by
    have hp1 : srt ((p ++ [r]) ++ b) := by simpa using hp
    rw [mg_cons, mg_keepB (p := p ++ [r]) (insR_srt hs) ?_ hp1]
    · simp
    rw [insR_last hs, h, List.filter_append]
    intro x hx hf
    have hm : x ∈ p.filter fun x => f x.1 := by rw [← h]; exact List.mem_filter.2 ⟨hx, hf⟩
    have hxp := (List.mem_filter.1 hm).1
    exact (List.pairwise_append.1 hp).2.2 x hxp r (by simp)
theorem fold_filter (p : ByteArray) : ∀ (l : List Rl) (st : Rl × Bool), l.foldl (stepR p) st = (l.filter fun x => coversB x.1 p).foldl (stepR p) st
  | [], _ => rfl
  | x :: t, st => by
    rw [List.foldl_cons, List.filter_cons]
    cases h : coversB x.1 p
    · have : stepR p st x = st := by unfold stepR takesR; rw [h]; rfl
      rw [this, fold_filter p t st]; rfl
    · rw [if_pos rfl, List.foldl_cons, fold_filter p t]
theorem fold_any (p : ByteArray) : ∀ (l : List Rl) (st : Rl × Bool), (l.foldl (stepR p) st).2 = (st.2 || l.any fun x => coversB x.1 p)
  | [], st => by simp
  | x :: t, st => by
    rw [List.foldl_cons, fold_any p t, List.any_cons]
    have : (stepR p st x).2 = (st.2 || coversB x.1 p) := by
      unfold stepR takesR
      obtain ⟨s, b⟩ := st
      cases b <;> cases coversB x.1 p <;> simp
      split <;> rfl
    rw [this, Bool.or_assoc]
theorem ruleA_all (l : List Rl) (p : ByteArray) : ruleA l p l.length = l.foldl (stepR p) noRule := by unfold ruleA; rw [List.take_length]
/-- what the law of merged policies says -/
theorem merged {nA nB nM : ByteArray} {a b : List Rl} {p : ByteArray} (ha : polB nA a = true) (hb : polB nB b = true) (hm : polB nM (mg a b) = true) (hp : pathB p = true) :
    (rfA nM (mg a b) p).2 = ((rfA nA a p).2 || (rfA nB b p).2) ∧
    ((rfA nA a p).2 = true → (rfA nB b p).2 = false → (rfA nM (mg a b) p).1 = (rfA nA a p).1) ∧
    ((rfA nA a p).2 = false → (rfA nB b p).2 = true → (rfA nM (mg a b) p).1 = (rfA nB b p).1) := by
  unfold rfA
  rw [ha, hb, hm, hp]
  simp only [Bool.and_self, if_true, ruleA_all]
  have ea := fold_any p a noRule
  have eb := fold_any p b noRule
  have em := fold_any p (mg a b) noRule
  rw [show noRule.2 = false from rfl, Bool.false_or] at ea eb em
  rw [mg_any (fun g => coversB g p)] at em
  refine ⟨by rw [em, ea, eb], fun _ h2 => ?_, fun h1 _ => ?_⟩
  · rw [eb] at h2
    rw [fold_filter p (mg a b), fold_filter p a, mg_keepA (f := fun g => coversB g p) h2]
  · rw [ea] at h1
    rw [fold_filter p (mg a b), fold_filter p b]
    have h0 : a.filter (fun x => coversB x.1 p) = ([] : List Rl).filter (fun x => coversB x.1 p) := by
      rw [List.filter_nil, List.filter_eq_nil_iff]
      intro x hx e
      have := List.any_eq_false.1 h1 x hx
      exact this e
    rw [mg_keepB (f := fun g => coversB g p) (p := []) (pol_srt ha) h0 (pol_srt hb)]
    rfl
end Go.Proofs.YtmjmjloiblbhcaaDoor
