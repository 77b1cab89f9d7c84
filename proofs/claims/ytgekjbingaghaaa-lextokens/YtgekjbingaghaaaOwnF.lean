/- A value semantics of the model's programs, sound against it, and functions read off the given program with the proofs that it runs so; no condition. -/
import Derived.Test.YtgekjbingaghaaaOwnE
import Derived.Sort.AssemblyPlain
set_option linter.all false
set_option linter.unnecessarySimpa false
set_option linter.unusedVariables false
set_option linter.unusedSimpArgs false
/- part Q2i -/
/- Plain lemmas: Make of ranges. -/
namespace Go.Val
set_option linter.unusedVariables false
theorem Contains_eq {l : List TRange} {f : TRange → Option Bool} {g : TRange → Bool} (hf : ∀ x ∈ l, f x = some (g x)) (hl : l.length < 9223372036854775807) : slices_ContainsFunc_api_Range_api_Range l f = some (l.any g) := by
  obtain ⟨r, h1, h2⟩ := Loop_spec (body := slices_IndexFunc_api_Range_api_Range.b1 l f) (Q := fun r => decide (r ≥ (0 : Int)) = l.any g) (fun v => ∃ k : Nat, v = k ∧ k ≤ l.length ∧ ∀ j, j < k → ∀ x, l[j]? = some x → g x = false) (fun v => l.length - v.toNat) (fun s ⟨k, hk, hkl, hall⟩ => by
    subst hk
    by_cases h : k < l.length
    · have hx : l[k]? = some l[k] := List.getElem?_eq_getElem h
      cases hg : g l[k] with
      | true =>
        right
        refine ⟨(k : Int), ?_, ?_⟩
        · rw [slices_IndexFunc_api_Range_api_Range.b1, if_pos (by simpa using h), idx_nat, hx, Option.bind_some, hf _ (List.getElem_mem h), Option.bind_some, hg, if_pos rfl]
        · rw [decide_eq_true (by omega)]; symm; rw [List.any_eq_true]; exact ⟨_, List.getElem_mem h, hg⟩
      | false =>
        left
        refine ⟨((k + 1 : Nat) : Int), ?_, ⟨k + 1, rfl, h, fun j hj x hx' => ?_⟩, by omega⟩
        · rw [slices_IndexFunc_api_Range_api_Range.b1, if_pos (by simpa using h), idx_nat, hx, Option.bind_some, hf _ (List.getElem_mem h), Option.bind_some, hg, if_neg (by simp), w64s (by omega)]
        · by_cases e : j = k
          · subst e; rw [hx] at hx'; cases hx'; exact hg
          · exact hall j (by omega) x hx'
    · right
      obtain rfl : k = l.length := by omega
      refine ⟨-1, ?_, ?_⟩
      · rw [slices_IndexFunc_api_Range_api_Range.b1, if_neg (by simp)]; rfl
      · rw [decide_eq_false (by omega)]; symm; rw [List.any_eq_false]
        intro x hx
        obtain ⟨j, hj, rfl⟩ := List.getElem_of_mem hx
        simp [hall j hj _ (List.getElem?_eq_getElem hj)]) (0 : Int) ⟨0, rfl, Nat.zero_le _, fun j hj => absurd hj (by omega)⟩
  unfold slices_ContainsFunc_api_Range_api_Range slices_IndexFunc_api_Range_api_Range
  rw [h1, Option.bind_some, h2]
theorem swoL : Go.Sort.SWO ltR where
  irrefl x := by simp [ltR]
  trans x y z h1 h2 := by simp [ltR] at *; omega
  ntrans x y z h1 h2 := by simp [ltR] at *; omega
theorem sortR_spec {l : List TRange} (h : l.length ≤ 140737488355328) : ∃ l', sortR l = some l' ∧ l'.Perm l ∧ l'.Pairwise (fun x y => x.Low ≤ y.Low) := by
  unfold sortR
  rw [if_pos (show l.length ≤ roomOf from h)]
  obtain ⟨⟨h1, _, h2⟩, h3⟩ := Go.Sort.pdq_sorts ltR swoL l.toArray 0 l.length (Go.Lib.bitLen l.length) true true (Nat.zero_le _) (by simp) (Or.inl rfl)
  generalize Go.Sort.pdq ltR l.toArray 0 l.length (Go.Lib.bitLen l.length) true true = d at h1 h2 h3 ⊢
  have hs : d.size = l.length := by simpa using h1
  refine ⟨_, rfl, ?_, ?_⟩
  · have e1 : d.extract 0 l.length = d := by rw [← hs]; simp
    have e2 : l.toArray.extract 0 l.length = l.toArray := by simp
    rw [e1, e2] at h2
    simpa using h2
  · rw [List.pairwise_iff_getElem]
    intro i j hi hj hij
    have := h3 i j (Nat.zero_le _) hij (by simpa [hs] using hj)
    rw [getElem!_pos d j (by simpa using hj), getElem!_pos d i (by simpa using hi)] at this
    simp only [ltR, decide_eq_false_iff_not] at this
    simp only [Array.getElem_toList]
    omega
theorem Clone_eq {l : List TRange} (h : l.length * 16 ≤ 140737488355328) : slices_Clone_api_Range_api_Range l = some l := by
  unfold slices_Clone_api_Range_api_Range
  rw [room_ok (by omega)]; rfl
instance (x : TRange) : Decidable (Ok x) := inferInstanceAs (Decidable (_ ∧ _ ∧ _))
theorem Make_1_eq (x : TRange) : ranges_Make_1 x = some (!decide (Ok x)) := by
  unfold ranges_Make_1 Ok
  congr 1
  by_cases h1 : x.Low < 0
  · have : ¬ (0 ≤ x.Low ∧ x.Low ≤ x.High ∧ x.High ≤ 1114111) := by omega
    simp [h1, this]
  · by_cases h2 : x.High > 1114111
    · have : ¬ (0 ≤ x.Low ∧ x.Low ≤ x.High ∧ x.High ≤ 1114111) := by omega
      simp [h2, this]
    · by_cases h3 : x.Low > x.High
      · have : ¬ (0 ≤ x.Low ∧ x.Low ≤ x.High ∧ x.High ≤ 1114111) := by omega
        simp [h3, this]
      · have : 0 ≤ x.Low ∧ x.Low ≤ x.High ∧ x.High ≤ 1114111 := by omega
        simp [h1, h2, h3, this]
theorem any_bad {l : List TRange} : (l.any fun x => !decide (Ok x)) = !decide (∀ x ∈ l, Ok x) := by
  rw [Bool.eq_iff_iff]
  simp
theorem take_snoc2 {l : List TRange} {s : Nat} {x : TRange} (h : l[s]? = some x) : l.take (s + 1) = l.take s ++ [x] := by
  rw [List.take_add_one, h]; rfl
theorem Make_loop {l1 : List TRange} (hok : ∀ x ∈ l1, Ok x) (hs : l1.Pairwise (fun x y => x.Low ≤ y.Low)) (hl : l1.length * 16 ≤ 140737488355328) :
    ∃ r, Loop (ranges_Make.b1 l1) ([], (0 : Int)) = some r ∧ r.2 = 0 ∧ Norm r.1 ∧ (∀ t, In r.1 t ↔ In l1 t) ∧ r.1.length ≤ l1.length := by
  refine Loop_spec (body := ranges_Make.b1 l1) (fun p => ∃ k : Nat, p.2 = k ∧ k ≤ l1.length ∧ Norm p.1 ∧ (∀ t, In p.1 t ↔ In (l1.take k) t) ∧ p.1.length ≤ k ∧ ∀ y ∈ p.1, ∀ z ∈ l1.drop k, y.Low ≤ z.Low) (fun p => l1.length - p.2.toNat) (fun p hp => ?_) _
    ⟨0, rfl, Nat.zero_le _, Norm_nil, fun t => by simp, Nat.le_refl _, fun y hy => by cases hy⟩
  obtain ⟨out, v⟩ := p
  obtain ⟨k, hk, hkl, hn, hin, hlen, hlow⟩ := hp
  simp only at hk hn hin hlen hlow
  subst hk
  by_cases h : k < l1.length
  · left
    have hx : l1[k]? = some l1[k] := List.getElem?_eq_getElem h
    have hd : l1.drop k = l1[k] :: l1.drop (k + 1) := List.drop_eq_getElem_cons h
    obtain ⟨out', g1, g2, g3, g4, g5⟩ := put_spec (x := l1[k]) hn (hok _ (List.getElem_mem h)) (fun y hy => hlow y hy _ (by rw [hd]; exact List.mem_cons_self)) (by omega)
    refine ⟨(out', ((k + 1 : Nat) : Int)), ?_, ⟨k + 1, rfl, h, g2, fun t => ?_, by simp only; omega, fun y hy z hz => ?_⟩, by simp only; omega⟩
    · simp only [ranges_Make.b1]
      rw [if_pos (by simpa using h), idx_nat, hx, Option.bind_some, g1, Option.bind_some, w64s (by omega)]
    · simp only
      rw [g3, hin, take_snoc2 hx, In_append, In_one]
    · have h1 := g5 y hy
      rw [List.pairwise_iff_getElem] at hs
      obtain ⟨j, hj, rfl⟩ := List.getElem_of_mem hz
      simp only [List.getElem_drop]
      have := hs k (k + 1 + j) h (by simp at hj; omega) (by omega)
      omega
  · right
    obtain rfl : k = l1.length := by omega
    refine ⟨(out, 0), ?_, rfl, hn, fun t => ?_, hlen⟩
    · simp only [ranges_Make.b1]
      rw [if_neg (by simp)]; rfl
    · simp only
      rw [hin, List.take_length]
/-- The set of ranges. -/
theorem Make_ok {l : List TRange} (hok : ∀ x ∈ l, Ok x) (hl : l.length * 16 ≤ 140737488355328) :
    ∃ out, ranges_Make l = some (out, 0) ∧ Norm out ∧ (∀ t, In out t ↔ In l t) ∧ out.length ≤ l.length := by
  obtain ⟨l1, h1, h2, h3⟩ := sortR_spec (l := l) (by omega)
  obtain ⟨r, g1, g2, g3, g4, g5⟩ := Make_loop (l1 := l1) (fun x hx => hok x (h2.mem_iff.1 hx)) h3 (by rw [h2.length_eq]; exact hl)
  refine ⟨r.1, ?_, g3, fun t => (g4 t).trans (In_perm h2), by rw [← h2.length_eq]; exact g5⟩
  unfold ranges_Make
  rw [Contains_eq (fun x _ => Make_1_eq x) (by omega), Option.bind_some, any_bad, decide_eq_true hok]
  rw [if_neg (by simp), Clone_eq hl, Option.bind_some, h1, Option.bind_some, g1, ← g2]
theorem Same_eq {a b : List TRange} (hl : a.length < 9223372036854775807) : scansionref02_Same a b = some (decide (a = b)) := by
  unfold scansionref02_Same
  by_cases hlen : a.length = b.length
  · rw [if_neg (by simp [hlen])]
    have := Loop_all0 (b := scansionref02_Same.b1 a b) (fun j => a[j]? = b[j]?) a.length (r := false) (R := true) (fun j hj hp => ?_) (fun j hj hp => ?_) ?_
    · by_cases h : a = b
      · rw [this.1 (fun j _ => by rw [h]), decide_eq_true h]
      · rw [this.2 (fun hall => h (List.ext_getElem? fun j => ?_)), decide_eq_false h]
        by_cases hj : j < a.length
        · exact hall j hj
        · rw [List.getElem?_eq_none (by omega), List.getElem?_eq_none (by omega)]
    · have ha : a[j]? = some a[j] := List.getElem?_eq_getElem hj
      have hb : b[j]? = some a[j] := by rw [← hp]; exact ha
      rw [scansionref02_Same.b1, if_pos (by simpa using hj), idx_nat, ha, Option.bind_some, idx_nat, hb, Option.bind_some, if_neg (by simp), w64s (by omega)]
    · have ha : a[j]? = some a[j] := List.getElem?_eq_getElem hj
      have hb : b[j]? = some (b[j]'(by omega)) := List.getElem?_eq_getElem (by omega)
      rw [ha, hb] at hp
      rw [scansionref02_Same.b1, if_pos (by simpa using hj), idx_nat, ha, Option.bind_some, idx_nat, hb, Option.bind_some, if_pos]
      generalize a[j] = x at *
      generalize b[j]'(by omega) = y at *
      cases x; cases y
      simp only [Option.some.injEq, TRange.mk.injEq] at hp
      simp
      omega
    · rw [scansionref02_Same.b1, if_neg (by simp)]; rfl
  · rw [if_pos (by simp; omega)]
    rw [decide_eq_false (fun h => hlen (by rw [h]))]
end Go.Val

/- part Q3i -/
/- Plain lemmas: Has, Count and Nth of ranges. -/
namespace Go.Val
set_option linter.unusedVariables false
theorem Norm.short : ∀ {l : List TRange} {lo : Int}, Norm l → (∀ x ∈ l, lo ≤ x.Low) → (l.length : Int) ≤ max 0 (1114112 - lo)
  | [], lo, _, _ => by simp; omega
  | x :: l, lo, h, hlo => by
    obtain ⟨h1, h2, h3⟩ := Norm_cons.1 h
    unfold Ok at h1
    have := Norm.short h3 (lo := x.High + 2) (fun y hy => by have := h2 y hy; omega)
    have := hlo x (by simp)
    simp only [List.length_cons]
    omega
theorem Norm.len {l : List TRange} (h : Norm l) : l.length ≤ 1114112 := by
  have := h.short (lo := 0) (fun x hx => (h.1 x hx).1)
  omega
theorem Norm.sep : ∀ {a : List TRange}, Norm a → ∀ x ∈ a, ∀ z ∈ a, z = x ∨ z.High + 1 < x.Low ∨ x.High + 1 < z.Low
  | [], _, x, hx, _, _ => by cases hx
  | y :: l, h, x, hx, z, hz => by
    obtain ⟨h1, h2, h3⟩ := Norm_cons.1 h
    rcases List.mem_cons.1 hx with e1 | hx1
    · rcases List.mem_cons.1 hz with e2 | hz1
      · exact .inl (e2.trans e1.symm)
      · rw [e1]; exact .inr (.inr (h2 z hz1))
    · rcases List.mem_cons.1 hz with e2 | hz1
      · rw [e2]; exact .inr (.inl (h2 x hx1))
      · exact Norm.sep h3 x hx1 z hz1
theorem Norm.below {a : List TRange} (h : Norm a) {x : TRange} (hx : x ∈ a) : ¬ In a (x.Low - 1) := by
  rintro ⟨z, hz, h1, h2⟩
  have k1 := h.1 x hx
  have k2 := h.1 z hz
  unfold Ok at k1 k2
  rcases h.sep x hx z hz with e | e | e
  · subst e; omega
  · omega
  · omega
theorem Norm.take {a : List TRange} (h : Norm a) (k : Nat) : Norm (a.take k) := ⟨fun x hx => h.1 x (List.mem_of_mem_take hx), h.2.sublist (List.take_sublist _ _)⟩
theorem Norm.drop {a : List TRange} (h : Norm a) (k : Nat) : Norm (a.drop k) := ⟨fun x hx => h.1 x (List.mem_of_mem_drop hx), h.2.sublist (List.drop_sublist _ _)⟩
def hasB (a : List TRange) (r : Int) : Bool := a.any fun x => decide (x.Low ≤ r) && decide (r ≤ x.High)
theorem hasB_iff {a : List TRange} {r : Int} : hasB a r = true ↔ In a r := by
  simp [hasB, In]
/-! ### Has -/
/-- The document's Has. -/
theorem refHas_eq {a : List TRange} (hl : a.length < 9223372036854775807) (r : Int) : scansionref02_Has a r = some (hasB a r) := by
  have := Loop_all0 (b := scansionref02_Has.b1 a r) (fun j => ∀ x, a[j]? = some x → ¬ (x.Low ≤ r ∧ r ≤ x.High)) a.length (r := true) (R := false) (fun j hj hp => ?_) (fun j hj hp => ?_) ?_
  · unfold scansionref02_Has
    by_cases h : ∀ j, j < a.length → ∀ x, a[j]? = some x → ¬ (x.Low ≤ r ∧ r ≤ x.High)
    · rw [this.1 h]
      congr 1
      symm
      rw [← Bool.not_eq_true, hasB_iff]
      rintro ⟨x, hx, h1⟩
      obtain ⟨k, hk, rfl⟩ := List.getElem_of_mem hx
      exact h k hk _ (List.getElem?_eq_getElem hk) h1
    · rw [this.2 h]
      congr 1
      symm
      rw [hasB_iff]
      simp only [Classical.not_forall, Classical.not_not] at h
      obtain ⟨j, hj, x, hx, h1⟩ := h
      exact ⟨x, List.mem_of_getElem? hx, h1⟩
  · have hx : a[j]? = some a[j] := List.getElem?_eq_getElem hj
    have h1 := hp _ hx
    rw [scansionref02_Has.b1, if_pos (by simpa using hj), idx_nat, hx, Option.bind_some]
    by_cases h2 : r ≥ a[j].Low
    · rw [if_pos (by simpa using h2), Option.bind_some, if_neg (by simp; omega), w64s (by omega)]
    · rw [if_neg (by simpa using h2), Option.bind_some, if_neg (by simp), w64s (by omega)]
  · have hx : a[j]? = some a[j] := List.getElem?_eq_getElem hj
    have h1 : a[j].Low ≤ r ∧ r ≤ a[j].High := Classical.not_not.1 fun hn => hp fun x hx' => by rw [hx] at hx'; cases hx'; exact hn
    rw [scansionref02_Has.b1, if_pos (by simpa using hj), idx_nat, hx, Option.bind_some, if_pos (by simpa using h1.1), Option.bind_some, if_pos (by simpa using h1.2)]
  · rw [scansionref02_Has.b1, if_neg (by simp)]; rfl

/-! ### Count, Nth -/
def many (x : TRange) : Int := x.High - x.Low + 1
end Go.Val

/- part Q4i -/
/- Plain lemmas: the document's sets (edges, pick). -/
namespace Go.Val
set_option linter.unusedVariables false
theorem take_snocR {α : Type} {l : List α} {s : Nat} {x : α} (h : l[s]? = some x) : l.take (s + 1) = l.take s ++ [x] := by
  rw [List.take_add_one, h]; rfl
theorem rising_spec {l : List Int} {n : Int} (hp : l.Pairwise (· < ·)) (hl : (l.length + 1) * 8 ≤ 140737488355328) :
    ∃ l', scansionref02_rising l n = some l' ∧ l'.Pairwise (· < ·) ∧ (∀ x, x ∈ l' ↔ x ∈ l ∨ x = n) ∧ l'.length ≤ l.length + 1 := by
  refine Loop_spec (body := scansionref02_rising.b1 l n) (fun v : Int => ∃ k : Nat, v = (k : Int) ∧ k ≤ l.length ∧ ∀ j, j < k → ∀ x, l[j]? = some x → x < n) (fun v => l.length - v.toNat) (fun s hs => ?_) _ ⟨0, rfl, Nat.zero_le _, fun j hj => absurd hj (by omega)⟩
  obtain ⟨k, rfl, hk, hlo⟩ := hs
  simp only [scansionref02_rising.b1]
  have hpw := List.pairwise_iff_getElem.1 hp
  by_cases hc : ∃ x, l[k]? = some x ∧ x < n
  · left
    obtain ⟨x, hx, hxn⟩ := hc
    have hkl : k < l.length := (List.getElem?_eq_some_iff.1 hx).1
    refine ⟨((k + 1 : Nat) : Int), ?_, ⟨k + 1, rfl, hkl, fun j hj y hy => ?_⟩, by omega⟩
    · rw [if_pos (by simpa using hkl), idx_nat, hx, Option.bind_some, Option.bind_some, if_pos (by simpa using hxn), w64s (by omega)]
    · by_cases e : j = k
      · subst e; rw [hx] at hy; cases hy; exact hxn
      · exact hlo j (by omega) y hy
  · right
    have hge : ∀ x, l[k]? = some x → n ≤ x := fun x hx => by
      rcases Int.lt_or_le x n with h | h
      · exact absurd ⟨x, hx, h⟩ hc
      · exact h
    have hv : ((if (decide (((k : Nat) : Int) < (l.length : Int))) then
        (idx l ((k : Nat) : Int)).bind fun n2 =>
        some (decide (n2 < n))
      else
        some false)) = some false := by
      by_cases hkl : k < l.length
      · have hx : l[k]? = some l[k] := List.getElem?_eq_getElem hkl
        rw [if_pos (by simpa using hkl), idx_nat, hx, Option.bind_some]
        have := hge _ hx
        rw [decide_eq_false (by omega)]
      · rw [if_neg (by simpa using hkl)]
    rw [hv, Option.bind_some, if_neg (by simp)]
    unfold scansionref02_rising.k1
    by_cases he : l[k]? = some n
    · have hkl : k < l.length := (List.getElem?_eq_some_iff.1 he).1
      refine ⟨l, ?_, hp, fun x => ⟨.inl, fun h => h.elim id fun e => by subst e; exact List.mem_of_getElem? he⟩, by omega⟩
      rw [if_pos (by simpa using hkl), idx_nat, he, Option.bind_some, Option.bind_some, if_pos (by simp)]; rfl
    · have hv2 : ((if (decide (((k : Nat) : Int) < (l.length : Int))) then
          (idx l ((k : Nat) : Int)).bind fun n1 =>
          some (n1 == n)
        else
          some false)) = some false := by
        by_cases hkl : k < l.length
        · have hx : l[k]? = some l[k] := List.getElem?_eq_getElem hkl
          rw [if_pos (by simpa using hkl), idx_nat, hx, Option.bind_some]
          rw [hx] at he
          congr 1
          rw [beq_eq_false_iff_ne]
          exact fun e => he (by rw [e])
        · rw [if_neg (by simpa using hkl)]
      have hgt : ∀ j, k ≤ j → ∀ x, l[j]? = some x → n < x := fun j hj x hx => by
        have hjl : j < l.length := (List.getElem?_eq_some_iff.1 hx).1
        have hxe : l[j] = x := (List.getElem?_eq_some_iff.1 hx).2
        have hkl : k < l.length := by omega
        have h1 := hge _ (List.getElem?_eq_getElem hkl)
        have h2 : l[k] ≠ n := fun e => he (by rw [List.getElem?_eq_getElem hkl, e])
        by_cases e : j = k
        · subst e; rw [hxe] at h1 h2; omega
        · have := hpw k j hkl hjl (by omega)
          rw [hxe] at this; omega
      have hch : cutH l (k : Int) = some (l.take k) := by unfold cutH; rw [if_pos ⟨by omega, by omega⟩]; simp
      have hcl : cutL l (k : Int) = some (l.drop k) := by unfold cutL; rw [if_pos ⟨by omega, by omega⟩]; simp
      have ht : (l.take k).length = k := by simp; omega
      have hd : (l.drop k).length = l.length - k := by simp
      refine ⟨l.take k ++ [n] ++ l.drop k, ?_, ?_, fun x => ?_, by simp; omega⟩
      · rw [hv2, Option.bind_some, if_neg (by simp), hch, Option.bind_some, show (Int.toNat (k : Int)) = k by simp, room_ok (by omega), Option.bind_some, room_ok (by omega), Option.bind_some, hcl, Option.bind_some, room_ok (by omega), Option.bind_some]; rfl
      · rw [List.pairwise_append, List.pairwise_append]
        refine ⟨⟨hp.sublist (List.take_sublist _ _), List.pairwise_singleton _ _, fun x hx y hy => ?_⟩, hp.sublist (List.drop_sublist _ _), fun x hx y hy => ?_⟩
        · simp at hy; subst hy
          obtain ⟨j, hj, rfl⟩ := List.getElem_of_mem hx
          rw [List.getElem_take]
          exact hlo j (by omega) _ (List.getElem?_eq_getElem _)
        · obtain ⟨j, hj, rfl⟩ := List.getElem_of_mem hy
          rw [List.getElem_drop]
          have hyn := hgt (k + j) (by omega) _ (List.getElem?_eq_getElem (by omega))
          rcases List.mem_append.1 hx with hx | hx
          · obtain ⟨i, hi, rfl⟩ := List.getElem_of_mem hx
            rw [List.getElem_take]
            have := hlo i (by omega) _ (List.getElem?_eq_getElem (by omega))
            omega
          · simp at hx; subst hx; exact hyn
      · have hm : x ∈ l ↔ x ∈ l.take k ∨ x ∈ l.drop k := by
          conv => lhs; rw [← List.take_append_drop k l]
          exact List.mem_append
        simp only [List.mem_append, List.mem_singleton, hm]
        constructor
        · rintro ((h | h) | h)
          · exact .inl (.inl h)
          · exact .inr h
          · exact .inl (.inr h)
        · rintro ((h | h) | h)
          · exact .inl (.inl h)
          · exact .inr h
          · exact .inl (.inr h)
/-- Where something may begin. -/
def Edge (m : List TRange) (e : Int) : Prop := e = 0 ∨ ∃ x ∈ m, e = x.Low ∨ (x.High < 1114111 ∧ e = x.High + 1)
theorem Edge_snoc {m : List TRange} {x : TRange} {e : Int} : Edge (m ++ [x]) e ↔ (Edge m e ∨ e = x.Low) ∨ (x.High < 1114111 ∧ e = x.High + 1) := by
  unfold Edge
  constructor
  · rintro (h | ⟨y, hy, h⟩)
    · exact .inl (.inl (.inl h))
    · rcases List.mem_append.1 hy with hy | hy
      · exact .inl (.inl (.inr ⟨y, hy, h⟩))
      · simp at hy; subst hy
        rcases h with h | h
        · exact .inl (.inr h)
        · exact .inr h
  · rintro (((h | ⟨y, hy, h⟩) | h) | h)
    · exact .inl h
    · exact .inr ⟨y, by simp [hy], h⟩
    · exact .inr ⟨x, by simp, .inl h⟩
    · exact .inr ⟨x, by simp, .inr h⟩
theorem edges_spec {a b : List TRange} (ha : ∀ x ∈ a, Ok x) (hb : ∀ x ∈ b, Ok x) (hl : a.length + b.length ≤ 4000000) :
    ∃ E, scansionref02_edges a b = some E ∧ E.Pairwise (· < ·) ∧ (∀ e, e ∈ E ↔ Edge (a ++ b) e) ∧ E.length ≤ 2 * (a.length + b.length) + 1 := by
  have hlen : (a ++ b).length = a.length + b.length := by simp
  have hok : ∀ x ∈ a ++ b, Ok x := fun x hx => (List.mem_append.1 hx).elim (ha x) (hb x)
  unfold scansionref02_edges
  rw [room_ok (by omega), Option.bind_some, room_ok (by omega), Option.bind_some]
  refine Loop_spec (body := scansionref02_edges.b1 a b) (fun p : List Int × Int => ∃ k : Nat, p.2 = (k : Int) ∧ k ≤ (a ++ b).length ∧ p.1.Pairwise (· < ·) ∧ (∀ e, e ∈ p.1 ↔ Edge ((a ++ b).take k) e) ∧ p.1.length ≤ 2 * k + 1) (fun p => (a ++ b).length - p.2.toNat) (fun p hp => ?_) _
    ⟨0, rfl, Nat.zero_le _, List.pairwise_singleton _ _, fun e => by simp [Edge], by simp⟩
  obtain ⟨out, v⟩ := p
  obtain ⟨k, e, hk, hpw, hm, hol⟩ := hp
  simp only at e hpw hm hol
  subst e
  generalize hL : a ++ b = L at *
  simp only [scansionref02_edges.b1, hL]
  by_cases h : k < L.length
  · left
    have hx : L[k]? = some L[k] := List.getElem?_eq_getElem h
    have o := hok _ (List.getElem_mem h)
    unfold Ok at o
    obtain ⟨r, r1, r2, r3, r4⟩ := rising_spec (n := L[k].Low) hpw (by omega)
    rw [if_pos (by simpa using h), idx_nat, hx, Option.bind_some, r1, Option.bind_some]
    by_cases hh : L[k].High < 1114111
    · obtain ⟨q, q1, q2, q3, q4⟩ := rising_spec (n := L[k].High + 1) r2 (by omega)
      refine ⟨(q, ((k + 1 : Nat) : Int)), ?_, ⟨k + 1, rfl, h, q2, fun e => ?_, by simp only; omega⟩, by simp only; omega⟩
      · rw [if_pos (by simpa using hh), w64 (by omega) (by omega), q1, Option.bind_some]
        unfold scansionref02_edges.k2
        rw [w64s (by omega)]
      · simp only
        rw [q3, r3, hm, take_snocR hx, Edge_snoc]
        constructor
        · rintro (h | h)
          · exact .inl h
          · exact .inr ⟨hh, h⟩
        · rintro (h | h)
          · exact .inl h
          · exact .inr h.2
    · refine ⟨(r, ((k + 1 : Nat) : Int)), ?_, ⟨k + 1, rfl, h, r2, fun e => ?_, by simp only; omega⟩, by simp only; omega⟩
      · rw [if_neg (by simpa using hh)]
        unfold scansionref02_edges.k2
        rw [w64s (by omega)]
      · simp only
        rw [r3, hm, take_snocR hx, Edge_snoc]
        constructor
        · exact .inl
        · rintro (h | h)
          · exact h
          · exact absurd h.1 hh
  · right
    obtain rfl : k = L.length := by omega
    refine ⟨out, ?_, hpw, fun e => ?_, by omega⟩
    · rw [if_neg (by simp)]; rfl
    · rw [hm, List.take_length]
theorem with_spec {out : List TRange} {low high : Int} (hn : Norm out) (h0 : 0 ≤ low) (h1 : low ≤ high) (h2 : high ≤ 1114111) (hl : ∀ y ∈ out, y.High < low) :
    ∃ out', scansionref02_with out low high = some out' ∧ Norm out' ∧ ∀ r, In out' r ↔ In out r ∨ (low ≤ r ∧ r ≤ high) := by
  have hlen := hn.len
  rcases List.eq_nil_or_concat out with rfl | ⟨init, y, rfl⟩
  · refine ⟨[⟨low, high⟩], ?_, Norm_snoc (l := []).2 ⟨Norm_nil, ⟨h0, h1, h2⟩, fun y h => by cases h⟩, fun r => ?_⟩
    · unfold scansionref02_with
      rw [if_neg (by simp), Option.bind_some, if_neg (by simp), room_ok (by simp), Option.bind_some]; rfl
    · rw [In_one]; exact ⟨.inr, fun h => h.elim (fun h => absurd h In_nil) id⟩
  · rw [List.concat_eq_append] at *
    have hlen' : (init ++ [y]).length = init.length + 1 := by simp
    obtain ⟨n1, n2, n3⟩ := Norm_snoc.1 hn
    have hyo := n2
    unfold Ok at hyo
    have hyl := hl y (by simp)
    have hi : (init ++ [y])[init.length]? = some y := by simp
    have hw : IntKind.i64.wrap (((init ++ [y]).length : Int) - 1) = (init.length : Int) := by rw [hlen']; exact len_pred (by omega)
    have hcond : (if (decide (((init ++ [y]).length : Int) > (0 : Int))) then
      (idx (init ++ [y]) (IntKind.i64.wrap (((init ++ [y]).length : Int) - (1 : Int)))).bind fun x =>
      some (x.High == (IntKind.i64.wrap (low - (1 : Int))))
    else
      some false) = some (y.High == low - 1) := by
      rw [if_pos (by simp), hw, idx_nat, hi, Option.bind_some, w64 (by omega) (by omega)]
    by_cases hc : y.High = low - 1
    · refine ⟨init ++ [⟨y.Low, high⟩], ?_, Norm_snoc.2 ⟨n1, ⟨(show 0 ≤ y.Low by omega), (show y.Low ≤ high by omega), h2⟩, n3⟩, fun r => ?_⟩
      · unfold scansionref02_with
        rw [hcond, Option.bind_some, if_pos (by simpa using hc), hw, idx_nat, hi, Option.bind_some]
        simp
      · rw [In_append, In_append, In_one, In_one]
        show In init r ∨ (y.Low ≤ r ∧ r ≤ high) ↔ (In init r ∨ (y.Low ≤ r ∧ r ≤ y.High)) ∨ (low ≤ r ∧ r ≤ high)
        constructor
        · rintro (h | ⟨h3, h4⟩)
          · exact .inl (.inl h)
          · by_cases h5 : r ≤ y.High
            · exact .inl (.inr ⟨h3, h5⟩)
            · exact .inr ⟨by omega, by omega⟩
        · rintro ((h | ⟨h3, h4⟩) | ⟨h3, h4⟩)
          · exact .inl h
          · exact .inr ⟨h3, by omega⟩
          · exact .inr ⟨by omega, by omega⟩
    · refine ⟨init ++ [y] ++ [⟨low, high⟩], ?_, Norm_snoc.2 ⟨hn, ⟨h0, h1, h2⟩, fun z hz => ?_⟩, fun r => ?_⟩
      · unfold scansionref02_with
        rw [hcond, Option.bind_some, if_neg (by simpa using hc), room_ok (by omega), Option.bind_some]
      · show z.High + 1 < low
        rcases List.mem_append.1 hz with hz | hz
        · have := n3 z hz; omega
        · simp at hz; subst hz; omega
      · rw [In_append, In_one]
end Go.Val

/- part Q5i -/
/- Plain lemmas: the document's Or, And, Less, Not, Make. -/
namespace Go.Val
set_option linter.unusedVariables false
/-- What is taken. -/
def kindP (kind : Int) (one two : Bool) : Bool := if kind = 1 then one && two else if kind = 2 then one && !two else if kind = 3 then !one && !two else one || two
/-- Where a piece ends: the next edge; the end of all. -/
def bnd (E : List Int) (k : Nat) : Int := (E[k]?).getD 1114112
theorem bnd_at {E : List Int} {k : Nat} (h : k < E.length) : bnd E k = E[k] := by unfold bnd; rw [List.getElem?_eq_getElem h]; rfl
theorem bnd_end {E : List Int} : bnd E E.length = 1114112 := by unfold bnd; rw [List.getElem?_eq_none (Nat.le_refl _)]; rfl
theorem bnd_split {E : List Int} (hp : E.Pairwise (· < ·)) {k : Nat} (h : k < E.length) {e : Int} (he : e ∈ E) : e ≤ E[k] ∨ bnd E (k + 1) ≤ e := by
  obtain ⟨j, hj, rfl⟩ := List.getElem_of_mem he
  have hpw := List.pairwise_iff_getElem.1 hp
  by_cases h1 : j < k
  · exact .inl (by have := hpw j k hj h h1; omega)
  · by_cases h2 : j = k
    · subst h2; exact .inl (Int.le_refl _)
    · right
      rw [bnd_at (by omega)]
      by_cases h3 : j = k + 1
      · subst h3; exact Int.le_refl _
      · have := hpw (k + 1) j (by omega) hj (by omega); omega
theorem bnd_lt {E : List Int} (hp : E.Pairwise (· < ·)) (hE : ∀ e ∈ E, e ≤ 1114111) {k : Nat} (h : k < E.length) : E[k] < bnd E (k + 1) := by
  by_cases h1 : k + 1 < E.length
  · rw [bnd_at h1]; exact List.pairwise_iff_getElem.1 hp k (k + 1) h h1 (by omega)
  · rw [show k + 1 = E.length by omega, bnd_end]
    have := hE _ (List.getElem_mem h); omega
theorem Edge_bound {m : List TRange} (hm : ∀ x ∈ m, Ok x) {e : Int} (h : Edge m e) : 0 ≤ e ∧ e ≤ 1114111 := by
  rcases h with rfl | ⟨x, hx, h⟩
  · omega
  · have := hm x hx
    unfold Ok at this
    rcases h with rfl | ⟨h, rfl⟩ <;> omega
/-- Between two edges nothing turns. -/
theorem const_at {m L : List TRange} {E : List Int} (hm : ∀ x ∈ L, Ok x) (hp : E.Pairwise (· < ·)) (hE : ∀ e, e ∈ E ↔ Edge L e) (hs : ∀ x ∈ m, x ∈ L) {k : Nat} (h : k < E.length) {t : Int} (h1 : E[k] ≤ t) (h2 : t < bnd E (k + 1)) (h3 : t ≤ 1114111) :
    hasB m t = hasB m E[k] := by
  rw [Bool.eq_iff_iff, hasB_iff, hasB_iff]
  have key : ∀ x ∈ m, (x.Low ≤ t ∧ t ≤ x.High) ↔ (x.Low ≤ E[k] ∧ E[k] ≤ x.High) := fun x hx => by
    have o := hm x (hs x hx)
    unfold Ok at o
    have k1 := bnd_split hp h ((hE x.Low).2 (.inr ⟨x, hs x hx, .inl rfl⟩))
    by_cases hh : x.High < 1114111
    · have k2 := bnd_split hp h ((hE (x.High + 1)).2 (.inr ⟨x, hs x hx, .inr ⟨hh, rfl⟩⟩))
      omega
    · omega
  constructor
  · rintro ⟨x, hx, h⟩; exact ⟨x, hx, (key x hx).1 h⟩
  · rintro ⟨x, hx, h⟩; exact ⟨x, hx, (key x hx).2 h⟩
theorem pick_k3 {a b : List TRange} {kind : Int} {E : List Int} {out : List TRange} {k : Nat} {high : Int} (h : k < E.length) (ha : a.length ≤ 4000000) (hb : b.length ≤ 4000000) :
    scansionref02_pick.k3 a b kind E out (k : Int) high = scansionref02_pick.k4 out k high E[k] (kindP kind (hasB a E[k]) (hasB b E[k])) := by
  unfold scansionref02_pick.k3 kindP
  rw [idx_nat, List.getElem?_eq_getElem h, Option.bind_some, refHas_eq (by omega), Option.bind_some, refHas_eq (by omega), Option.bind_some]
  generalize hasB a E[k] = p
  generalize hasB b E[k] = q
  by_cases h1 : kind = 1
  · subst h1; cases p <;> rfl
  · rw [if_neg (by simpa using h1), if_neg h1]
    by_cases h2 : kind = 2
    · subst h2; cases p <;> rfl
    · rw [if_neg (by simpa using h2), if_neg h2]
      by_cases h3 : kind = 3
      · subst h3; cases p <;> rfl
      · rw [if_neg (by simpa using h3), if_neg h3]
theorem pick_spec {a b : List TRange} {kind : Int} (ha : ∀ x ∈ a, Ok x) (hb : ∀ x ∈ b, Ok x) (hl : a.length + b.length ≤ 4000000) :
    ∃ out, scansionref02_pick a b kind = some out ∧ Norm out ∧ ∀ t, In out t ↔ (0 ≤ t ∧ t ≤ 1114111 ∧ kindP kind (hasB a t) (hasB b t) = true) := by
  obtain ⟨E, e1, e2, e3, e4⟩ := edges_spec ha hb hl
  have hok : ∀ x ∈ a ++ b, Ok x := fun x hx => (List.mem_append.1 hx).elim (ha x) (hb x)
  have hbd : ∀ e ∈ E, 0 ≤ e ∧ e ≤ 1114111 := fun e he => Edge_bound hok ((e3 e).1 he)
  have h0 : 0 < E.length := List.length_pos_of_mem ((e3 0).2 (.inl rfl))
  have hE0 : bnd E 0 = 0 := by
    rw [bnd_at h0]
    have k1 := hbd _ (List.getElem_mem h0)
    obtain ⟨j, hj, hje⟩ := List.getElem_of_mem ((e3 0).2 (.inl rfl))
    by_cases h : j = 0
    · subst h; exact hje
    · have := List.pairwise_iff_getElem.1 e2 0 j h0 hj (by omega); omega
  unfold scansionref02_pick
  rw [e1, Option.bind_some]
  refine Loop_spec (body := scansionref02_pick.b1 a b kind E) (fun p : List TRange × Int => ∃ k : Nat, p.2 = (k : Int) ∧ k ≤ E.length ∧ Norm p.1 ∧ ∀ t, In p.1 t ↔ (0 ≤ t ∧ t < bnd E k ∧ kindP kind (hasB a t) (hasB b t) = true)) (fun p => E.length - p.2.toNat) (fun p hp => ?_) _
    ⟨0, rfl, Nat.zero_le _, Norm_nil, fun t => ⟨fun h => absurd h In_nil, fun h => by rw [hE0] at h; omega⟩⟩
  obtain ⟨out, v⟩ := p
  obtain ⟨k, e, hk, hn, hin⟩ := hp
  simp only at e hn hin
  subst e
  simp only [scansionref02_pick.b1]
  by_cases h : k < E.length
  · left
    have hlt := bnd_lt e2 (fun e he => (hbd e he).2) h
    have hE := hbd _ (List.getElem_mem h)
    have hnext : bnd E (k + 1) ≤ 1114112 := by
      by_cases h1 : k + 1 < E.length
      · rw [bnd_at h1]; have := hbd _ (List.getElem_mem h1); omega
      · rw [show k + 1 = E.length by omega, bnd_end]; omega
    have hhigh : (if (decide ((IntKind.i64.wrap ((k : Int) + (1 : Int))) < (E.length : Int))) then
        (idx E (IntKind.i64.wrap ((k : Int) + (1 : Int)))).bind fun n1 =>
        scansionref02_pick.k3 a b kind E out (k : Int) (IntKind.i64.wrap (n1 - (1 : Int)))
      else
        scansionref02_pick.k3 a b kind E out (k : Int) (1114111 : Int)) = scansionref02_pick.k3 a b kind E out (k : Int) (bnd E (k + 1) - 1) := by
      rw [w64s (by omega)]
      by_cases h1 : k + 1 < E.length
      · have := hbd _ (List.getElem_mem h1)
        rw [if_pos (by simp; omega), idx_nat, List.getElem?_eq_getElem h1, Option.bind_some, bnd_at h1, w64 (by omega) (by omega)]
      · rw [if_neg (by simp; omega), show k + 1 = E.length by omega, bnd_end]; rfl
    rw [if_pos (by simpa using h), hhigh, pick_k3 h (by omega) (by omega)]
    unfold scansionref02_pick.k4 scansionref02_pick.k2
    have hconst : ∀ t, E[k] ≤ t → t < bnd E (k + 1) → kindP kind (hasB a t) (hasB b t) = kindP kind (hasB a E[k]) (hasB b E[k]) := fun t h1 h2 => by
      rw [const_at hok e2 e3 (fun x hx => by simp [hx]) h h1 h2 (by omega), const_at hok e2 e3 (fun x hx => by simp [hx]) h h1 h2 (by omega)]
    rw [bnd_at h] at hin
    cases hc : kindP kind (hasB a E[k]) (hasB b E[k]) with
    | true =>
      obtain ⟨out', q1, q2, q3⟩ := with_spec (low := E[k]) (high := bnd E (k + 1) - 1) hn hE.1 (by omega) (by omega) (fun y hy => ((hin y.High).1 (In_high hn hy)).2.1)
      refine ⟨(out', ((k + 1 : Nat) : Int)), ?_, ⟨k + 1, rfl, h, q2, fun t => ?_⟩, by simp only; omega⟩
      · rw [if_pos rfl, q1, Option.bind_some, w64s (by omega)]
      · simp only
        rw [q3, hin]
        constructor
        · rintro (⟨h1, h2, h3⟩ | ⟨h1, h2⟩)
          · exact ⟨h1, by omega, h3⟩
          · exact ⟨by omega, by omega, by rw [hconst t h1 (by omega)]; exact hc⟩
        · rintro ⟨h1, h2, h3⟩
          by_cases h4 : t < E[k]
          · exact .inl ⟨h1, h4, h3⟩
          · exact .inr ⟨by omega, by omega⟩
    | false =>
      refine ⟨(out, ((k + 1 : Nat) : Int)), ?_, ⟨k + 1, rfl, h, hn, fun t => ?_⟩, by simp only; omega⟩
      · rw [if_neg (by simp), w64s (by omega)]
      · simp only
        rw [hin]
        constructor
        · rintro ⟨h1, h2, h3⟩
          exact ⟨h1, by omega, h3⟩
        · rintro ⟨h1, h2, h3⟩
          by_cases h4 : t < E[k]
          · exact ⟨h1, h4, h3⟩
          · rw [hconst t (by omega) h2, hc] at h3; cases h3
  · right
    obtain rfl : k = E.length := by omega
    refine ⟨out, ?_, hn, fun t => ?_⟩
    · rw [if_neg (by simp)]; rfl
    · rw [hin, bnd_end]
      constructor
      · rintro ⟨h1, h2, h3⟩; exact ⟨h1, by omega, h3⟩
      · rintro ⟨h1, h2, h3⟩; exact ⟨h1, by omega, h3⟩
theorem refMake_ok_one {l : List TRange} {k : Nat} (h : k < l.length) (hl : l.length ≤ 4000000) (hb : Ok l[k]) : scansionref02_Make.b1 l (k : Int) = some (.next ((k + 1 : Nat) : Int)) := by
  rw [scansionref02_Make.b1, if_pos (by simpa using h), idx_nat, List.getElem?_eq_getElem h, Option.bind_some]
  unfold Ok at hb
  rw [if_neg (by simp; omega), if_neg (by simp; omega), Option.bind_some, if_neg (by simp; omega), w64s (by omega)]
theorem refMake_ok {l : List TRange} (hok : ∀ x ∈ l, Ok x) (hl : l.length ≤ 4000000) : ∃ out, scansionref02_Make l = some (out, 0) ∧ Norm out ∧ ∀ t, In out t ↔ In l t := by
  obtain ⟨out, h1, h2, h3⟩ := pick_spec (a := l) (b := []) (kind := 0) hok (fun x h => by cases h) (by simpa using hl)
  refine ⟨out, ?_, h2, fun t => ?_⟩
  · unfold scansionref02_Make
    have := Loop_int (b := scansionref02_Make.b1 l) (i := 0) (n := l.length) (Nat.zero_le _) (fun j _ hj => refMake_ok_one hj hl (hok _ (List.getElem_mem hj)))
    rw [show ((0 : Nat) : Int) = 0 from rfl] at this
    rw [this]
    apply Loop_end
    rw [scansionref02_Make.b1, if_neg (by simp)]
    unfold scansionref02_Make.k1
    rw [h1]; rfl
  · rw [h3]
    have e : kindP 0 (hasB l t) (hasB [] t) = hasB l t := by simp [kindP, hasB]
    rw [e, hasB_iff]
    constructor
    · exact fun h => h.2.2
    · intro h
      obtain ⟨x, hx, k1, k2⟩ := h
      have := hok x hx
      unfold Ok at this
      exact ⟨by omega, by omega, x, hx, k1, k2⟩
end Go.Val

/- part Q20 -/
/- Plain lemmas: the reader goes through units, sign by sign. -/
namespace Go.Val
set_option linter.unusedVariables false
set_option linter.unusedSimpArgs false
/-- A unit's sign; the sign at hand; where it begins. -/
def su (u : TUnit) : Int := if u.Bad then -2 else u.Rune
def sgn : List TUnit → Int
  | [] => -1
  | u :: _ => su u
def atU (whole : Int) : List TUnit → Int
  | [] => whole
  | u :: _ => u.At
/-- A reader ahead of these. -/
def rd (U : List TUnit) (w : Int) (us : List TUnit) (f : Int) : Tlex_reader := ⟨U, ((U.length - us.length : Nat) : Int), w, f⟩
/-- Units that are no stranger than a text's. -/
def Fine (U : List TUnit) : Prop := U.length ≤ 1048576 ∧ ∀ u ∈ U, 0 ≤ u.Rune ∧ u.Rune ≤ 1114111
variable {U us : List TUnit} {w f : Int}
theorem suf_get (h : us <:+ U) : U[U.length - us.length]? = us[0]? := by
  obtain ⟨t, rfl⟩ := h
  rw [List.length_append, Nat.add_sub_cancel, List.getElem?_append_right (Nat.le_refl _), Nat.sub_self]
theorem suf_len (h : us <:+ U) : us.length ≤ U.length := h.length_le
theorem suf_tail {u : TUnit} (h : (u :: us) <:+ U) : us <:+ U := (List.suffix_cons u us).trans h
theorem Fine.one {u : TUnit} (hF : Fine U) (h : (u :: us) <:+ U) : 0 ≤ u.Rune ∧ u.Rune ≤ 1114111 := hF.2 u (h.subset (by simp))
theorem su_ne {u : TUnit} (hF : Fine U) (h : (u :: us) <:+ U) : su u ≠ -1 := by
  have := (hF.one h).1
  unfold su; split <;> omega
theorem now_eq (h : us <:+ U) : lex_reader_now (rd U w us f) = some (sgn us) := by
  have hl := suf_len h
  unfold lex_reader_now rd
  cases us with
  | nil => rw [if_pos (by simp)]; rfl
  | cons u us =>
    have hg := suf_get h
    simp only [List.length_cons] at hg hl ⊢
    rw [if_neg (by simp; omega), idx_nat, hg]
    simp only [List.getElem?_cons_zero, Option.bind_some, sgn, su]
    cases u.Bad <;> rfl
theorem at_eq (h : us <:+ U) : lex_reader_at (rd U w us f) = some (atU w us) := by
  have hl := suf_len h
  unfold lex_reader_at rd
  cases us with
  | nil => rw [if_pos (by simp)]; rfl
  | cons u us =>
    have hg := suf_get h
    simp only [List.length_cons] at hg hl ⊢
    rw [if_neg (by simp; omega), idx_nat, hg]
    rfl
theorem rd_step {u : TUnit} (hF : Fine U) (h : (u :: us) <:+ U) : IntKind.i64.wrap (((U.length - (u :: us).length : Nat) : Int) + 1) = ((U.length - us.length : Nat) : Int) := by
  have hl := suf_len h
  have := hF.1
  simp only [List.length_cons] at hl ⊢
  rw [w64s (by omega)]
  congr 1; omega
theorem skip_eq {p : Int → Option Bool} {q : Int → Bool} (hF : Fine U) (hp : ∀ n, p n = some (q n)) (hq : q (-1) = false) : ∀ {us : List TUnit}, us <:+ U →
    Loop (lex_reader_skip.b1 ⟨U, 0, w, f⟩ p) ((U.length - us.length : Nat) : Int) = some (rd U w (us.dropWhile fun u => q (su u)) f)
  | [], h => by
    refine Loop_done ?_
    unfold lex_reader_skip.b1
    have hn := now_eq (w := w) (f := f) h
    simp only [rd] at hn
    simp only [hn, Option.bind_some, sgn, hp, hq]
    rfl
  | u :: us, h => by
    have hn := now_eq (w := w) (f := f) h
    simp only [rd] at hn
    cases hu : q (su u) with
    | false =>
      refine Loop_done ?_
      unfold lex_reader_skip.b1
      simp only [hn, Option.bind_some, sgn, hp, hu, List.dropWhile_cons]
      rfl
    | true =>
      rw [Loop_next (s' := ((U.length - us.length : Nat) : Int))]
      · rw [skip_eq hF hp hq (suf_tail h), List.dropWhile_cons, hu]; rfl
      · unfold lex_reader_skip.b1
        simp only [hn, Option.bind_some, sgn, hp, hu, if_true, rd_step hF h]
theorem skip_rd {p : Int → Option Bool} {q : Int → Bool} (hF : Fine U) (hp : ∀ n, p n = some (q n)) (hq : q (-1) = false) (h : us <:+ U) : lex_reader_skip (rd U w us f) p = some (rd U w (us.dropWhile fun u => q (su u)) f) := skip_eq hF hp hq h
theorem suf_drop {q : TUnit → Bool} (h : us <:+ U) : us.dropWhile q <:+ U := (List.dropWhile_suffix q).trans h
/-! ### blanks -/
def isBl (n : Int) : Bool := n == 32 || n == 9 || n == 13 || n == 10
def inNote (n : Int) : Bool := n != 10 && (n != -1 && n != -2)
theorem one_eq {l : Str} {n : Int} (hl : l.length ≤ 1000) : lex_one l n = some (l.any fun c => (c.toNat : Int) == n) := by
  have key : ∀ (k : Nat), k ≤ l.length → Loop (lex_one.b1 l n) ((l.length - k : Nat) : Int) = some ((l.drop (l.length - k)).any fun c => (c.toNat : Int) == n) := by
    intro k
    induction k with
    | zero =>
      intro _
      refine Loop_done ?_
      unfold lex_one.b1
      rw [if_neg (by simp)]
      simp [lex_one.k1]
    | succ k ih =>
      intro hk
      have hj : l.length - (k + 1) < l.length := by omega
      have hx : l[l.length - (k + 1)]? = some l[l.length - (k + 1)] := List.getElem?_eq_getElem hj
      rw [List.drop_eq_getElem_cons hj, List.any_cons]
      have hw : IntKind.i64.wrap ((l[l.length - (k + 1)].toNat : Nat) : Int) = ((l[l.length - (k + 1)].toNat : Nat) : Int) := w64 (by omega) (by have := l[l.length - (k + 1)].toNat_lt; omega)
      cases hc : ((l[l.length - (k + 1)].toNat : Int) == n) with
      | true =>
        refine Loop_done ?_
        unfold lex_one.b1
        rw [if_pos (by simp; omega), idx_nat, hx, Option.bind_some, hw, hc]
        rfl
      | false =>
        rw [Loop_next (s' := ((l.length - k : Nat) : Int))]
        · rw [ih (by omega), show l.length - (k + 1) + 1 = l.length - k by omega]
          simp
        · unfold lex_one.b1
          rw [if_pos (by simp; omega), idx_nat, hx, Option.bind_some, hw, hc]
          simp only [Bool.false_eq_true, if_false]
          rw [w64s (by omega), show l.length - (k + 1) + 1 = l.length - k by omega]
  have := key l.length (Nat.le_refl _)
  simpa [lex_one] using this
theorem bl1_eq (n : Int) : lex_reader_blank_1 n = some (isBl n) := by
  unfold lex_reader_blank_1
  rw [one_eq (by decide)]
  have e : ∀ c : Int, (c == n) = (n == c) := fun c => Bool.beq_comm
  show some (((32 : Int) == n) || (((9 : Int) == n) || (((13 : Int) == n) || (((10 : Int) == n) || false)))) = some (isBl n)
  simp only [e, isBl, Bool.or_false, Bool.or_assoc]
theorem bl2_eq (n : Int) : lex_reader_blank_2 n = some (inNote n) := rfl
/-- What stands behind blanks, and notes. -/
def blk : Bool → List TUnit → List TUnit
  | _, [] => []
  | false, u :: us => if isBl (su u) then blk false us else if su u = 35 then blk true us else u :: us
  | true, u :: us => if su u = 10 then blk false us else if su u = -2 then u :: us else blk true us
theorem blk_suf : ∀ (b : Bool) (us : List TUnit), blk b us <:+ us
  | _, [] => by cases ‹Bool› <;> exact List.suffix_rfl
  | false, u :: us => by
    simp only [blk]
    split
    · exact (blk_suf false us).trans (List.suffix_cons u us)
    split
    · exact (blk_suf true us).trans (List.suffix_cons u us)
    · exact List.suffix_rfl
  | true, u :: us => by
    simp only [blk]
    split
    · exact (blk_suf false us).trans (List.suffix_cons u us)
    split
    · exact List.suffix_rfl
    · exact (blk_suf true us).trans (List.suffix_cons u us)
theorem blk_skip : ∀ (us : List TUnit), blk false us = blk false (us.dropWhile fun u => isBl (su u))
  | [] => rfl
  | u :: us => by
    rw [List.dropWhile_cons]
    cases h : isBl (su u) with
    | true => simp only [blk, h, if_true]; exact blk_skip us
    | false => simp
theorem blk_stop {u : TUnit} (h1 : isBl (su u) = false) (h2 : su u ≠ 35) : blk false (u :: us) = u :: us := by
  simp only [blk, h1, if_neg h2, Bool.false_eq_true, if_false]
theorem blk_note (hF : Fine U) : ∀ {us : List TUnit}, us <:+ U → blk true us = blk false (us.dropWhile fun u => inNote (su u))
  | [], _ => rfl
  | u :: us, h => by
    have h1 := su_ne hF h
    rw [List.dropWhile_cons]
    simp only [blk]
    by_cases h10 : su u = 10
    · have hn : inNote (su u) = false := by rw [h10]; rfl
      rw [if_pos h10, hn]
      simp only [Bool.false_eq_true, if_false, blk]
      rw [if_pos (by rw [h10]; rfl)]
    · rw [if_neg h10]
      by_cases h2 : su u = -2
      · have hn : inNote (su u) = false := by rw [h2]; rfl
        rw [if_pos h2, hn]
        simp only [Bool.false_eq_true, if_false]
        rw [blk_stop (by rw [h2]; rfl) (by omega)]
      · have hn : inNote (su u) = true := by
          simp only [inNote, bne_iff_ne, ne_eq, Bool.and_eq_true]; exact ⟨h10, h1, h2⟩
        rw [if_neg h2, hn]
        exact blk_note hF (suf_tail h)
theorem drop_head {q : TUnit → Bool} : ∀ (l : List TUnit), l.dropWhile q = [] ∨ ∃ u m, l.dropWhile q = u :: m ∧ q u = false
  | [] => .inl rfl
  | u :: l => by
    rw [List.dropWhile_cons]
    cases h : q u with
    | true => exact drop_head l
    | false => exact .inr ⟨u, l, rfl, h⟩
theorem blank_rd (hF : Fine U) : ∀ (n : Nat) {us : List TUnit}, us.length ≤ n → us <:+ U → Loop lex_reader_blank.b1 (U, ((U.length - us.length : Nat) : Int), w, f) = some (rd U w (blk false us) f)
  | n, us, hn, h => by
    have hs := skip_rd (w := w) (f := f) hF bl1_eq (by rfl) h
    have hd := suf_drop (q := fun u => isBl (su u)) h
    rw [blk_skip us]
    have hbody := now_eq (w := w) (f := f) hd
    rcases drop_head (q := fun u => isBl (su u)) us with he | ⟨u, m, he, hu⟩
    · refine Loop_done ?_
      rw [he] at hs hd hbody ⊢
      simp only [lex_reader_blank.b1]
      simp only [rd] at hs hbody ⊢
      rw [hs, Option.bind_some, hbody, Option.bind_some]
      rfl
    · by_cases h35 : su u = 35
      · have hlen : m.length < us.length := by
          have := (List.dropWhile_suffix (l := us) (fun u => isBl (su u))).length_le
          rw [he] at this; simp at this; omega
        rw [he] at hs hd hbody ⊢
        have hs2 := skip_rd (w := w) (f := f) hF bl2_eq (by rfl) hd
        rw [List.dropWhile_cons, show inNote (su u) = true by rw [h35]; rfl] at hs2
        simp only [if_true] at hs2
        have hm := suf_drop (q := fun u => inNote (su u)) (suf_tail hd)
        have hlm := (List.dropWhile_suffix (l := m) (fun u => inNote (su u))).length_le
        rw [Loop_next (s' := (U, ((U.length - (m.dropWhile fun u => inNote (su u)).length : Nat) : Int), w, f))]
        · cases n with
          | zero => omega
          | succ n =>
            rw [blank_rd hF n (us := m.dropWhile fun u => inNote (su u)) (by omega) hm]
            have : blk false (u :: m) = blk true m := by simp only [blk, hu, if_pos h35, Bool.false_eq_true, if_false]
            rw [this, blk_note hF (suf_tail hd)]
        · simp only [lex_reader_blank.b1]
          simp only [rd] at hs hs2 hbody ⊢
          rw [hs, Option.bind_some, hbody, Option.bind_some]
          simp only [sgn, h35]
          rw [hs2]
          rfl
      · refine Loop_done ?_
        rw [he] at hs hd hbody ⊢
        rw [blk_stop hu h35]
        simp only [lex_reader_blank.b1]
        simp only [rd] at hs hbody ⊢
        rw [hs, Option.bind_some, hbody, Option.bind_some]
        rw [if_pos (by simpa [sgn] using h35)]
theorem blank_eq (hF : Fine U) (h : us <:+ U) : lex_reader_blank (rd U w us f) = some (rd U w (blk false us) f) := blank_rd hF us.length (Nat.le_refl _) h
end Go.Val

/- part Q21 -/
/- Plain lemmas: what the reader takes: numbers, letters. -/
namespace Go.Val
set_option linter.unusedVariables false
set_option linter.unusedSimpArgs false
variable {U us : List TUnit} {w f : Int}
/-- What is read, and what stands behind it; or the error, and where. -/
inductive Pr (α : Type) where
  | ok (a : α) (r : List TUnit)
  | err (c : Int) (r : List TUnit)
def odd (us : List TUnit) : Int := if us.isEmpty then 7 else 6
theorem odd_eq (hF : Fine U) (h : us <:+ U) : lex_reader_odd (rd U w us 0) = some (rd U w us (odd us)) := by
  unfold lex_reader_odd
  rw [if_neg (by simp [rd]), now_eq h, Option.bind_some]
  cases us with
  | nil => rfl
  | cons u us =>
    have h1 := su_ne hF h
    rw [if_neg (by simpa [sgn] using h1)]
    rfl
theorem odd_f (hf : f ≠ 0) : lex_reader_odd (rd U w us f) = some (rd U w us f) := by
  unfold lex_reader_odd
  rw [if_pos (by simpa [rd] using hf)]; rfl
theorem take_f {p : Int → Option Bool} (h : us <:+ U) (hf : f ≠ 0) : lex_reader_take (rd U w us f) p = some (0, rd U w us f) := by
  unfold lex_reader_take
  have hf' : ((rd U w us f).fault != 0) = true := by simpa [rd] using hf
  rw [now_eq h, Option.bind_some, if_pos hf', Option.bind_some, if_pos rfl, odd_f hf]; rfl
theorem take_no {p : Int → Option Bool} (hF : Fine U) (h : us <:+ U) (hp : p (sgn us) = some false) : lex_reader_take (rd U w us 0) p = some (0, rd U w us (odd us)) := by
  unfold lex_reader_take
  have hf' : ¬ ((rd U w us 0).fault != 0) = true := by simp [rd]
  rw [now_eq h, Option.bind_some, if_neg hf', hp, Option.bind_some, Option.bind_some, if_pos (by rfl), odd_eq hF h]; rfl
theorem take_yes {p : Int → Option Bool} {u : TUnit} (hF : Fine U) (h : (u :: us) <:+ U) (hp : p (su u) = some true) : lex_reader_take (rd U w (u :: us) 0) p = some (su u, rd U w us 0) := by
  unfold lex_reader_take
  have hf' : ¬ ((rd U w (u :: us) 0).fault != 0) = true := by simp [rd]
  rw [now_eq h, Option.bind_some, if_neg hf']
  simp only [sgn]
  rw [hp, Option.bind_some, Option.bind_some, if_neg (by simp)]
  have := rd_step hF h
  simp only [rd] at this ⊢
  rw [this]
/-! ### numbers -/
def hexv (n : Int) : Option Int := if 48 ≤ n ∧ n ≤ 57 then some (n - 48) else if 65 ≤ n ∧ n ≤ 70 then some (n - 55) else none
theorem fig_eq (n : Int) : lex_reader_number_2 n = some (hexv n).isSome := by
  unfold lex_reader_number_2 hexv
  by_cases h1 : 48 ≤ n ∧ n ≤ 57
  · rw [if_pos h1, decide_eq_true h1.1, decide_eq_true h1.2]; rfl
  · rw [if_neg h1]
    by_cases h2 : 65 ≤ n ∧ n ≤ 70
    · rw [if_pos h2, decide_eq_true (show n ≥ 48 by omega), decide_eq_true (show n ≥ 65 from h2.1), decide_eq_true h2.2]; simp
    · rw [if_neg h2]
      have a1 : (decide (n ≥ 65) && decide (n ≤ 70)) = false := by simp; omega
      rw [a1]
      cases h3 : decide (n ≥ 48) with
      | false => rfl
      | true => simp at h3; simp; omega
def closeS (acc : Int) : List TUnit → Pr Int
  | [] => .err 7 []
  | u :: us => if su u = 125 then .ok acc us else .err 6 (u :: us)
def figS : Nat → Bool → Int → List TUnit → Pr Int
  | 0, _, acc, us => closeS acc us
  | k + 1, fst, acc, [] => .err 7 []
  | k + 1, fst, acc, u :: us => match hexv (su u) with
    | some d => figS k false (acc * 16 + d) us
    | none => if fst then .err 6 (u :: us) else closeS acc (u :: us)
def numS : List TUnit → Pr Int
  | [] => .err 7 []
  | u :: us => if su u = 123 then figS 6 true 0 us else .err 6 (u :: us)
/-- Behind a fault nothing is taken. -/
theorem num_f (h : us <:+ U) (hf : f ≠ 0) : ∀ (k : Nat) (out i : Int), i + k = 6 → 0 ≤ i → ∃ v, Loop lex_reader_number.b1 (out, i, U, ((U.length - us.length : Nat) : Int), w, f) = some (v, rd U w us f)
  | k, out, i, hk, hi => by
    have ht : ∀ p, lex_reader_take ⟨U, ((U.length - us.length : Nat) : Int), w, f⟩ p = some (0, rd U w us f) := fun p => take_f h hf
    have hn : lex_reader_now ⟨U, ((U.length - us.length : Nat) : Int), w, f⟩ = some (sgn us) := now_eq h
    have fin : ∀ out, (lex_reader_number.k1 out U ((U.length - us.length : Nat) : Int) w f).map (Step.done (σ := Int × Int × List TUnit × Int × Int × Int)) = some (.done (out, rd U w us f)) := fun out => by
      unfold lex_reader_number.k1; rw [ht]; rfl
    have go : ∀ v : Bool, (v = true → 0 < k) → (if decide (i < 6) = true then if (i == 0) = true then some true else (lex_reader_now ⟨U, ((U.length - us.length : Nat) : Int), w, f⟩).bind fun r3 => (lex_reader_number_2 r3).bind fun r4 => some r4 else some false) = some v →
        ∃ v, Loop lex_reader_number.b1 (out, i, U, ((U.length - us.length : Nat) : Int), w, f) = some (v, rd U w us f) := fun v hv he => by
      cases v with
      | false =>
        refine ⟨out, Loop_done ?_⟩
        simp only [lex_reader_number.b1]
        rw [he]
        exact fin out
      | true =>
        obtain ⟨k, rfl⟩ : ∃ j, k = j + 1 := ⟨k - 1, by have := hv rfl; omega⟩
        obtain ⟨x, hx⟩ := num_f h hf k (IntKind.i64.wrap (IntKind.i64.wrap (IntKind.i64.wrap (out * 16) + 0) - 48)) (i + 1) (by omega) (by omega)
        refine ⟨x, ?_⟩
        rw [← hx]
        refine Loop_next ?_
        simp only [lex_reader_number.b1]
        rw [he, Option.bind_some, if_pos rfl, ht, Option.bind_some]
        rw [if_neg (by simp)]
        unfold lex_reader_number.k2
        rw [w64 (n := i + 1) (by omega) (by omega)]
        rfl
    by_cases h6 : i < 6
    · by_cases h0 : i = 0
      · exact go true (fun _ => by omega) (by rw [if_pos (by simpa using h6), if_pos (by simpa using h0)])
      · exact go (hexv (sgn us)).isSome (fun _ => by omega) (by rw [if_pos (by simpa using h6), if_neg (by simpa using h0), hn, Option.bind_some, fig_eq]; rfl)
    · exact go false (fun e => by cases e) (by rw [if_neg (by simpa using h6)])
theorem hexv_lt {n d : Int} (h : hexv n = some d) : 0 ≤ d ∧ d < 16 ∧ (d = if n ≥ 65 then n - 7 - 48 else n - 48) ∧ 48 ≤ n ∧ n ≤ 70 := by
  unfold hexv at h
  split at h
  · cases h; rename_i h; rw [if_neg (by omega)]; omega
  split at h
  · cases h; rename_i h; rw [if_pos (by omega)]; omega
  · cases h
theorem close_eq (hF : Fine U) (h : us <:+ U) (acc : Int) : match closeS acc us with
    | .ok v r => lex_reader_number.k1 acc U ((U.length - us.length : Nat) : Int) w 0 = some (v, rd U w r 0) ∧ r <:+ us ∧ v = acc ∧ r.length < us.length
    | .err c r => ∃ v, lex_reader_number.k1 acc U ((U.length - us.length : Nat) : Int) w 0 = some (v, rd U w r c) ∧ r <:+ us ∧ c ≠ 0 := by
  cases us with
  | nil =>
    refine ⟨acc, ?_, List.suffix_rfl, by decide⟩
    have := take_no (w := w) (p := lex_reader_number_3) hF h rfl
    unfold lex_reader_number.k1
    simp only [rd] at this ⊢
    rw [this]; rfl
  | cons u us =>
    by_cases h1 : su u = 125
    · simp only [closeS, if_pos h1]
      refine ⟨?_, List.suffix_cons u us, by simp, by simp⟩
      have := take_yes (w := w) (p := lex_reader_number_3) hF h (by unfold lex_reader_number_3; rw [h1]; rfl)
      unfold lex_reader_number.k1
      simp only [rd] at this ⊢
      rw [this]; rfl
    · simp only [closeS, if_neg h1]
      refine ⟨acc, ?_, List.suffix_rfl, by decide⟩
      have := take_no (w := w) (p := lex_reader_number_3) hF h (by unfold lex_reader_number_3 sgn; simp [h1])
      unfold lex_reader_number.k1
      simp only [rd] at this ⊢
      rw [this]; rfl
theorem fig_spec (hF : Fine U) : ∀ (k : Nat) (fst : Bool) {us : List TUnit} (acc i : Int), us <:+ U → i + k = 6 → 0 ≤ i → (fst = true ↔ i = 0) → 0 ≤ acc → acc < 16 ^ (6 - k) →
    match figS k fst acc us with
    | .ok v r => Loop lex_reader_number.b1 (acc, i, U, ((U.length - us.length : Nat) : Int), w, 0) = some (v, rd U w r 0) ∧ r <:+ us ∧ 0 ≤ v ∧ v < 16777216 ∧ r.length < us.length
    | .err c r => (∃ v, Loop lex_reader_number.b1 (acc, i, U, ((U.length - us.length : Nat) : Int), w, 0) = some (v, rd U w r c)) ∧ r <:+ us ∧ c ≠ 0
  | k, fst, us, acc, i, h, hk, hi, hf, ha, hb => by
    have hn : lex_reader_now ⟨U, ((U.length - us.length : Nat) : Int), w, 0⟩ = some (sgn us) := now_eq h
    have hb6 : acc < 16777216 := Int.lt_of_lt_of_le hb (by
      have : (16 : Int) ^ (6 - k) ≤ 16 ^ 6 := by exact_mod_cast Nat.pow_le_pow_right (by decide) (by omega)
      simpa using this)
    have stop : (if decide (i < 6) = true then if (i == 0) = true then some true else (lex_reader_now ⟨U, ((U.length - us.length : Nat) : Int), w, 0⟩).bind fun r3 => (lex_reader_number_2 r3).bind fun r4 => some r4 else some false) = some false →
        match closeS acc us with
        | .ok v r => Loop lex_reader_number.b1 (acc, i, U, ((U.length - us.length : Nat) : Int), w, 0) = some (v, rd U w r 0) ∧ r <:+ us ∧ 0 ≤ v ∧ v < 16777216 ∧ r.length < us.length
        | .err c r => (∃ v, Loop lex_reader_number.b1 (acc, i, U, ((U.length - us.length : Nat) : Int), w, 0) = some (v, rd U w r c)) ∧ r <:+ us ∧ c ≠ 0 := fun he => by
      have hc := close_eq (w := w) hF h acc
      cases hcs : closeS acc us with
      | ok v r =>
        rw [hcs] at hc
        obtain ⟨h1, h2, h3, h4⟩ := hc
        refine ⟨Loop_done ?_, h2, by omega, by omega, h4⟩
        simp only [lex_reader_number.b1]
        rw [he, Option.bind_some, if_neg (by simp), h1]; rfl
      | err c r =>
        rw [hcs] at hc
        obtain ⟨v, h1, h2, h3⟩ := hc
        refine ⟨⟨v, Loop_done ?_⟩, h2, h3⟩
        simp only [lex_reader_number.b1]
        rw [he, Option.bind_some, if_neg (by simp), h1]; rfl
    cases k with
    | zero => exact stop (by rw [if_neg (by simp; omega)])
    | succ k =>
      have h6 : decide (i < 6) = true := by simp; omega
      have fault : ∀ us', us' = us → (hexv (sgn us) = none) → fst = true → figS (k + 1) fst acc us = .err (odd us) us →
          match figS (k + 1) fst acc us with
          | .ok v r => Loop lex_reader_number.b1 (acc, i, U, ((U.length - us.length : Nat) : Int), w, 0) = some (v, rd U w r 0) ∧ r <:+ us ∧ 0 ≤ v ∧ v < 16777216 ∧ r.length < us.length
          | .err c r => (∃ v, Loop lex_reader_number.b1 (acc, i, U, ((U.length - us.length : Nat) : Int), w, 0) = some (v, rd U w r c)) ∧ r <:+ us ∧ c ≠ 0 := fun _ _ hx hfst he => by
        have hc : odd us ≠ 0 := by unfold odd; split <;> decide
        rw [he]
        refine ⟨?_, List.suffix_rfl, hc⟩
        have i0 := hf.1 hfst
        subst i0
        have ht := take_no (w := w) (p := lex_reader_number_2) hF h (by rw [fig_eq, hx]; rfl)
        obtain ⟨x, hx2⟩ := num_f (w := w) h hc 5 (IntKind.i64.wrap (IntKind.i64.wrap (IntKind.i64.wrap (acc * 16) + 0) - 48)) 1 (by omega) (by omega)
        refine ⟨x, ?_⟩
        rw [← hx2]
        refine Loop_next ?_
        simp only [lex_reader_number.b1]
        rw [if_pos h6, if_pos (by rfl), Option.bind_some, if_pos rfl]
        simp only [rd] at ht ⊢
        rw [ht, Option.bind_some, if_neg (by simp)]
        rfl
      cases us with
      | nil =>
        cases hfs : fst with
        | true => exact hfs ▸ fault [] rfl rfl hfs rfl
        | false =>
          have hst := stop (by
            rw [if_pos h6, if_neg (by intro e; simp at e; have := hf.2 e; rw [hfs] at this; cases this), hn]; rfl)
          exact hst
      | cons u us =>
        cases hx : hexv (su u) with
        | none =>
          cases hfs : fst with
          | true =>
            have := fault (u :: us) rfl hx hfs (by simp only [figS, hx, hfs, if_true]; rfl)
            rw [hfs] at this; exact this
          | false =>
            have hst := stop (by
              rw [if_pos h6, if_neg (by intro e; simp at e; have := hf.2 e; rw [hfs] at this; cases this), hn]
              simp only [Option.bind_some, sgn, fig_eq, hx]; rfl)
            simp only [figS, hx, Bool.false_eq_true, if_false]
            exact hst
        | some d =>
          obtain ⟨d0, d1, d2, d3, d4⟩ := hexv_lt hx
          have hp : (16 : Int) ^ (6 - k) = 16 ^ (6 - (k + 1)) * 16 := by
            rw [show 6 - k = (6 - (k + 1)) + 1 by omega, Int.pow_succ]
          have ih := fig_spec hF k false (us := us) (acc * 16 + d) (i + 1) (suf_tail h) (by omega) (by omega) ⟨fun e => (by cases e), fun e => (by omega)⟩ (by omega) (by rw [hp]; omega)
          have hgo : (if decide (i < 6) = true then if (i == 0) = true then some true else (lex_reader_now ⟨U, ((U.length - (u :: us).length : Nat) : Int), w, 0⟩).bind fun r3 => (lex_reader_number_2 r3).bind fun r4 => some r4 else some false) = some true := by
            rw [if_pos h6]
            split
            · rfl
            · rw [hn]; simp only [Option.bind_some, sgn, fig_eq, hx]; rfl
          have ht := take_yes (w := w) (p := lex_reader_number_2) hF h (by rw [fig_eq, hx]; rfl)
          have hstep : Loop lex_reader_number.b1 (acc, i, U, ((U.length - (u :: us).length : Nat) : Int), w, 0) = Loop lex_reader_number.b1 (acc * 16 + d, i + 1, U, ((U.length - us.length : Nat) : Int), w, 0) := by
            refine Loop_next ?_
            simp only [lex_reader_number.b1]
            rw [hgo, Option.bind_some, if_pos rfl]
            simp only [rd] at ht ⊢
            rw [ht, Option.bind_some]
            simp only
            by_cases h65 : su u ≥ 65
            · rw [if_pos (by simpa using h65)]
              unfold lex_reader_number.k2
              rw [if_pos h65] at d2
              rw [w64 (n := su u - 7) (by omega) (by omega), w64 (n := acc * 16) (by omega) (by omega), w64 (n := acc * 16 + (su u - 7)) (by omega) (by omega), w64 (by omega) (by omega), w64 (n := i + 1) (by omega) (by omega), d2]
              congr 4; omega
            · rw [if_neg (by simpa using h65)]
              unfold lex_reader_number.k2
              rw [if_neg h65] at d2
              rw [w64 (n := acc * 16) (by omega) (by omega), w64 (n := acc * 16 + su u) (by omega) (by omega), w64 (by omega) (by omega), w64 (n := i + 1) (by omega) (by omega), d2]
              congr 4; omega
          simp only [figS, hx, hstep]
          cases hfg : figS k false (acc * 16 + d) us with
          | ok v r =>
            rw [hfg] at ih
            exact ⟨ih.1, ih.2.1.trans (List.suffix_cons u us), ih.2.2.1, ih.2.2.2.1, by have := ih.2.2.2.2; simp; omega⟩
          | err c r =>
            rw [hfg] at ih
            exact ⟨ih.1, ih.2.1.trans (List.suffix_cons u us), ih.2.2⟩
end Go.Val

/- part Q22 -/
/- Plain lemmas: letters and sets are read. -/
namespace Go.Val
set_option linter.unusedVariables false
set_option linter.unusedSimpArgs false
variable {U us : List TUnit} {w f : Int}
theorem num_spec (hF : Fine U) (h : us <:+ U) : match numS us with
    | .ok v r => lex_reader_number (rd U w us 0) = some (v, rd U w r 0) ∧ r <:+ us ∧ 0 ≤ v ∧ v < 16777216 ∧ r.length < us.length
    | .err c r => (∃ v, lex_reader_number (rd U w us 0) = some (v, rd U w r c)) ∧ r <:+ us ∧ c ≠ 0 := by
  have bad : lex_reader_number_1 (sgn us) = some false → numS us = .err (odd us) us → match numS us with
    | .ok v r => lex_reader_number (rd U w us 0) = some (v, rd U w r 0) ∧ r <:+ us ∧ 0 ≤ v ∧ v < 16777216 ∧ r.length < us.length
    | .err c r => (∃ v, lex_reader_number (rd U w us 0) = some (v, rd U w r c)) ∧ r <:+ us ∧ c ≠ 0 := fun hp he => by
    have hc : odd us ≠ 0 := by unfold odd; split <;> decide
    rw [he]
    obtain ⟨v, hv⟩ := num_f (w := w) h hc 6 0 0 (by omega) (by omega)
    refine ⟨⟨v, ?_⟩, List.suffix_rfl, hc⟩
    unfold lex_reader_number
    rw [take_no hF h hp, Option.bind_some]
    exact hv
  cases us with
  | nil => exact bad rfl rfl
  | cons u us =>
    by_cases h1 : su u = 123
    · have hf := fig_spec (w := w) hF 6 true 0 0 (suf_tail h) (by omega) (by omega) (by simp) (by omega) (by decide)
      have ht := take_yes (w := w) (p := lex_reader_number_1) hF h (by unfold lex_reader_number_1; rw [h1]; rfl)
      have e : lex_reader_number (rd U w (u :: us) 0) = Loop lex_reader_number.b1 (0, 0, U, ((U.length - us.length : Nat) : Int), w, 0) := by
        unfold lex_reader_number
        rw [ht]; rfl
      simp only [numS, if_pos h1, e]
      cases hfg : figS 6 true 0 us with
      | ok v r =>
        rw [hfg] at hf
        exact ⟨hf.1, hf.2.1.trans (List.suffix_cons u us), hf.2.2.1, hf.2.2.2.1, by have := hf.2.2.2.2; simp; omega⟩
      | err c r =>
        rw [hfg] at hf
        exact ⟨hf.1, hf.2.1.trans (List.suffix_cons u us), hf.2.2⟩
    · exact bad (by unfold lex_reader_number_1 sgn; simp [h1]) (by simp only [numS, if_neg h1]; rfl)
/-! ### letters -/
def spec (n : Int) : Bool := n == 91 || n == 93 || n == 45 || n == 92
def plainL (n : Int) : Bool := decide (n ≥ 32) && !(n == 91 || n == 93 || n == 45)
def letterS : List TUnit → Pr Int
  | [] => .err 7 []
  | u :: us => if plainL (su u) then
      if su u = 92 then match us with
        | [] => .err 7 []
        | u2 :: us2 => if su u2 = 120 then numS us2 else if spec (su u2) then .ok (su u2) us2 else .err 6 (u2 :: us2)
      else .ok (su u) us
    else .err 6 (u :: us)
theorem any3 (n : Int) : lex_one ([91, 93, 45] : Str) n = some (n == 91 || n == 93 || n == 45) := by
  rw [one_eq (by decide)]
  have e : ∀ c : Int, (c == n) = (n == c) := fun c => Bool.beq_comm
  show some (((91 : Int) == n) || (((93 : Int) == n) || (((45 : Int) == n) || false))) = _
  simp only [e, Bool.or_false, Bool.or_assoc]
theorem any4 (n : Int) : lex_one ([91, 93, 45, 92] : Str) n = some (spec n) := by
  rw [one_eq (by decide)]
  have e : ∀ c : Int, (c == n) = (n == c) := fun c => Bool.beq_comm
  show some (((91 : Int) == n) || (((93 : Int) == n) || (((45 : Int) == n) || (((92 : Int) == n) || false)))) = _
  simp only [e, spec, Bool.or_false, Bool.or_assoc]
theorem l1_eq (n : Int) : lex_reader_letter_1 n = some (plainL n) := by
  unfold lex_reader_letter_1 plainL
  rw [any3]
  cases decide (n ≥ 32) <;> rfl
theorem l2_eq (n : Int) : lex_reader_letter_2 n = some (n == 120 || spec n) := by
  unfold lex_reader_letter_2
  rw [any4]
  cases (n == 120) <;> rfl
theorem letter_spec (hF : Fine U) (h : us <:+ U) : match letterS us with
    | .ok v r => lex_reader_letter (rd U w us 0) = some (v, rd U w r 0) ∧ r <:+ us ∧ 0 ≤ v ∧ v < 16777216 ∧ r.length < us.length
    | .err c r => (∃ v, lex_reader_letter (rd U w us 0) = some (v, rd U w r c)) ∧ r <:+ us ∧ c ≠ 0 := by
  have bad : lex_reader_letter_1 (sgn us) = some false → ∃ v, lex_reader_letter (rd U w us 0) = some (v, rd U w us (odd us)) := fun hp => by
    have hc : odd us ≠ 0 := by unfold odd; split <;> decide
    refine ⟨0, ?_⟩
    unfold lex_reader_letter
    rw [take_no hF h hp, Option.bind_some, if_pos (by simp)]
  cases us with
  | nil => exact ⟨bad rfl, List.suffix_rfl, by decide⟩
  | cons u us =>
    cases h1 : plainL (su u) with
    | false =>
      simp only [letterS, h1, Bool.false_eq_true, if_false]
      exact ⟨bad (by rw [l1_eq]; simp only [sgn, h1]), List.suffix_rfl, by decide⟩
    | true =>
      have ht := take_yes (w := w) (p := lex_reader_letter_1) hF h (by rw [l1_eq, h1])
      have hu := hF.one h
      have hb : 0 ≤ su u ∧ su u < 16777216 := by
        have : su u ≥ 32 := by simp [plainL] at h1; omega
        have h2 : su u ≤ 1114111 := by unfold su; split <;> omega
        omega
      simp only [letterS, h1, if_true]
      by_cases h92 : su u = 92
      · rw [if_pos h92]
        have hs := suf_tail h
        have e : lex_reader_letter (rd U w (u :: us) 0) = (lex_reader_take (rd U w us 0) lex_reader_letter_2).bind fun r2 => if (r2.1 != (120 : Int)) then some (r2.1, r2.2) else (lex_reader_number r2.2).bind fun r3 => some (r3.1, r3.2) := by
          unfold lex_reader_letter
          rw [ht, Option.bind_some, if_neg (by simp [h92, rd])]
        rw [e]
        cases us with
        | nil =>
          refine ⟨⟨0, ?_⟩, List.suffix_cons _ _, by decide⟩
          rw [take_no hF hs (by rw [l2_eq]; rfl)]; rfl
        | cons u2 us2 =>
          simp only
          by_cases h120 : su u2 = 120
          · rw [if_pos h120, take_yes hF hs (by rw [l2_eq, h120]; rfl), Option.bind_some, if_neg (by simp [h120])]
            have hn := num_spec (w := w) hF (suf_tail hs)
            cases hnn : numS us2 with
            | ok v r =>
              rw [hnn] at hn
              exact ⟨by rw [hn.1]; rfl, hn.2.1.trans ((List.suffix_cons u2 us2).trans (List.suffix_cons u _)), hn.2.2.1, hn.2.2.2.1, by have := hn.2.2.2.2; simp; omega⟩
            | err c r =>
              rw [hnn] at hn
              obtain ⟨⟨v, hv⟩, h2, h3⟩ := hn
              exact ⟨⟨v, by rw [hv]; rfl⟩, h2.trans ((List.suffix_cons u2 us2).trans (List.suffix_cons u _)), h3⟩
          · rw [if_neg h120]
            cases hsp : spec (su u2) with
            | true =>
              simp only [if_true]
              rw [take_yes hF hs (by rw [l2_eq, hsp]; simp), Option.bind_some, if_pos (by simpa using h120)]
              refine ⟨rfl, (List.suffix_cons u2 us2).trans (List.suffix_cons u _), ?_, ?_, by simp; omega⟩
              · simp [spec] at hsp; omega
              · simp [spec] at hsp; omega
            | false =>
              simp only [Bool.false_eq_true, if_false]
              refine ⟨⟨0, ?_⟩, List.suffix_cons _ _, by decide⟩
              rw [take_no hF hs (by rw [l2_eq]; simp [sgn, h120, hsp])]; rfl
      · rw [if_neg h92]
        refine ⟨?_, List.suffix_cons u us, hb.1, hb.2, by simp⟩
        unfold lex_reader_letter
        rw [ht, Option.bind_some, if_pos (by simp [h92])]
/-! ### sets -/
def setS : Nat → List TRange → List TUnit → Pr (List TRange)
  | 0, _, us => .err 6 us
  | k + 1, acc, us => if sgn us = 93 then .ok acc us.tail else
    match letterS us with
    | .err c r => .err c r
    | .ok lo r1 => match (if sgn r1 = 45 then letterS r1.tail else .ok lo r1) with
      | .err c r => .err c r
      | .ok hi r2 => if lo > hi ∨ hi > 1114111 then .err 1 us else setS k (acc ++ [⟨lo, hi⟩]) r2
theorem set_spec (hF : Fine U) : ∀ (k : Nat) {us : List TUnit} (acc : List TRange), us <:+ U → us.length < k → (∀ x ∈ acc, Ok x) → acc.length + us.length ≤ 1048576 →
    match setS k acc us with
    | .ok l r => Loop lex_reader_set.b1 (acc, U, ((U.length - us.length : Nat) : Int), w, 0) = (ranges_Make l).bind (fun q => some (q.1, rd U w r 0)) ∧ r <:+ us ∧ r.length < us.length ∧ (∀ x ∈ l, Ok x) ∧ l.length ≤ 1048576
    | .err c r => Loop lex_reader_set.b1 (acc, U, ((U.length - us.length : Nat) : Int), w, 0) = some ([], rd U w r c) ∧ r <:+ us ∧ c ≠ 0
  | 0, us, acc, _, hk, _, _ => absurd hk (Nat.not_lt_zero _)
  | k + 1, us, acc, h, hk, ha, hl => by
    have hn : lex_reader_now ⟨U, ((U.length - us.length : Nat) : Int), w, 0⟩ = some (sgn us) := now_eq h
    simp only [setS]
    by_cases h93 : sgn us = 93
    · rw [if_pos h93]
      cases us with
      | nil => simp [sgn] at h93
      | cons u us =>
        have hs := rd_step hF h
        refine ⟨?_, List.suffix_cons u us, by simp, ha, by omega⟩
        refine Loop_end ?_
        simp only [lex_reader_set.b1]
        rw [hn, Option.bind_some, if_neg (by simp [h93])]
        unfold lex_reader_set.k1
        simp only [List.tail_cons, rd, hs]
    · rw [if_neg h93]
      have hlt := letter_spec (w := w) hF h
      have hb : ∀ y, lex_reader_letter (rd U w us 0) = some y → lex_reader_set.b1 (acc, U, ((U.length - us.length : Nat) : Int), w, 0) =
          ((lex_reader_now y.2).bind fun r4 => if (r4 == (45 : Int)) then some (y.2.fault == (0 : Int)) else some false).bind fun v => if v then
            (lex_reader_letter (Tlex_reader.mk y.2.units (IntKind.i64.wrap (y.2.place + (1 : Int))) y.2.whole y.2.fault)).bind fun r5 => lex_reader_set.k2 acc ((U.length - us.length : Nat) : Int) y r5.1 r5.2.units r5.2.place r5.2.whole r5.2.fault
          else lex_reader_set.k2 acc ((U.length - us.length : Nat) : Int) y y.1 y.2.units y.2.place y.2.whole y.2.fault := fun y hy => by
        simp only [lex_reader_set.b1]
        rw [hn, Option.bind_some, if_pos (by simpa using h93)]
        simp only [rd] at hy
        rw [hy]; rfl
      cases hls : letterS us with
      | err c r =>
        rw [hls] at hlt
        obtain ⟨⟨v, hv⟩, hr, hc⟩ := hlt
        refine ⟨Loop_done ?_, hr, hc⟩
        rw [hb _ hv]
        have hnr := now_eq (w := w) (f := c) (hr.trans h)
        have hc' : (c == (0 : Int)) = false := by simpa using hc
        simp only [rd] at hnr ⊢
        rw [hnr, Option.bind_some, hc']
        rw [show (if (sgn r == (45 : Int)) = true then some false else some false) = some false by split <;> rfl, Option.bind_some, if_neg (by simp)]
        unfold lex_reader_set.k2
        rw [if_pos (by simpa using hc)]
      | ok lo r1 =>
        rw [hls] at hlt
        obtain ⟨hv, hr, hlo0, hlo1, hrl⟩ := hlt
        have hr1 := hr.trans h
        have hnr := now_eq (w := w) (f := 0) hr1
        -- what stands behind the letters
        have fin : ∀ (hi : Int) (r2 : List TUnit), r2 <:+ us → r2.length < us.length → 0 ≤ hi →
            lex_reader_set.b1 (acc, U, ((U.length - us.length : Nat) : Int), w, 0) = lex_reader_set.k2 acc ((U.length - us.length : Nat) : Int) (lo, rd U w r1 0) hi U ((U.length - r2.length : Nat) : Int) w 0 →
            match (if lo > hi ∨ hi > 1114111 then Pr.err 1 us else setS k (acc ++ [⟨lo, hi⟩]) r2) with
            | .ok l r => Loop lex_reader_set.b1 (acc, U, ((U.length - us.length : Nat) : Int), w, 0) = (ranges_Make l).bind (fun q => some (q.1, rd U w r 0)) ∧ r <:+ us ∧ r.length < us.length ∧ (∀ x ∈ l, Ok x) ∧ l.length ≤ 1048576
            | .err c r => Loop lex_reader_set.b1 (acc, U, ((U.length - us.length : Nat) : Int), w, 0) = some ([], rd U w r c) ∧ r <:+ us ∧ c ≠ 0 := fun hi r2 hs2 hl2 hh0 he => by
          by_cases hbad : lo > hi ∨ hi > 1114111
          · rw [if_pos hbad]
            refine ⟨Loop_done ?_, List.suffix_rfl, by decide⟩
            rw [he]
            unfold lex_reader_set.k2
            rw [if_neg (by simp), if_pos (by simpa using hbad)]; rfl
          · rw [if_neg hbad]
            have ih := set_spec hF k (us := r2) (acc ++ [⟨lo, hi⟩]) (hs2.trans h) (by omega) (fun x hx => by
              rcases List.mem_append.1 hx with hx | hx
              · exact ha x hx
              · rw [List.mem_singleton.1 hx]; unfold Ok; exact ⟨hlo0, by show lo ≤ hi; omega, by show hi ≤ 1114111; omega⟩) (by simp; omega)
            have hstep : Loop lex_reader_set.b1 (acc, U, ((U.length - us.length : Nat) : Int), w, 0) = Loop lex_reader_set.b1 (acc ++ [⟨lo, hi⟩], U, ((U.length - r2.length : Nat) : Int), w, 0) := by
              refine Loop_next ?_
              rw [he]
              unfold lex_reader_set.k2
              rw [if_neg (by simp), if_neg (by simpa using hbad), room_ok (by omega)]; rfl
            rw [hstep]
            cases hsk : setS k (acc ++ [⟨lo, hi⟩]) r2 with
            | ok l r =>
              rw [hsk] at ih
              exact ⟨ih.1, ih.2.1.trans hs2, by have := ih.2.2.1; omega, ih.2.2.2⟩
            | err c r =>
              rw [hsk] at ih
              exact ⟨ih.1, ih.2.1.trans hs2, ih.2.2⟩
        simp only
        by_cases h45 : sgn r1 = 45
        · rw [if_pos h45]
          cases r1 with
          | nil => simp [sgn] at h45
          | cons u2 us2 =>
            have hs := rd_step hF hr1
            have hlt2 := letter_spec (w := w) hF (suf_tail hr1)
            have hb2 : lex_reader_set.b1 (acc, U, ((U.length - us.length : Nat) : Int), w, 0) = (lex_reader_letter (rd U w us2 0)).bind fun r5 => lex_reader_set.k2 acc ((U.length - us.length : Nat) : Int) (lo, rd U w (u2 :: us2) 0) r5.1 r5.2.units r5.2.place r5.2.whole r5.2.fault := by
              rw [hb _ hv]
              rw [hnr, Option.bind_some, if_pos (by simpa using h45)]
              simp only [rd, hs]
              rfl
            simp only [List.tail_cons]
            cases hls2 : letterS us2 with
            | err c r =>
              rw [hls2] at hlt2
              obtain ⟨⟨v, hv2⟩, hr2, hc⟩ := hlt2
              refine ⟨Loop_done ?_, hr2.trans ((List.suffix_cons u2 us2).trans hr), hc⟩
              rw [hb2, hv2, Option.bind_some]
              unfold lex_reader_set.k2
              rw [if_pos (by simpa [rd] using hc)]
            | ok hi r2 =>
              rw [hls2] at hlt2
              obtain ⟨hv2, hr2, hh0, _, hrl2⟩ := hlt2
              exact fin hi r2 (hr2.trans ((List.suffix_cons u2 us2).trans hr)) (by simp at hrl; omega) hh0 (by rw [hb2, hv2, Option.bind_some]; rfl)
        · rw [if_neg h45]
          exact fin lo r1 hr hrl hlo0 (by
            rw [hb _ hv, hnr, Option.bind_some, if_neg (by simpa using h45)]; rfl)
end Go.Val

/- part Q23 -/
/- Plain lemmas: bytes as units: where these stand. -/
namespace Go.Val
set_option linter.unusedVariables false
set_option linter.unusedSimpArgs false
theorem uMore_len : ∀ {n : Nat} {l : List UInt8} {r q : Nat}, uMore n l r = some q → n ≤ l.length
  | 0, _, _, _, _ => Nat.zero_le _
  | n + 1, [], _, _, h => by simp [uMore] at h
  | n + 1, c :: l, r, q, h => by
    simp only [uMore] at h
    split at h
    · have := uMore_len h; simp; omega
    · cases h
/-- What a unit is: a byte that is none; or a code point of so many bytes. -/
inductive UnitOf (at_ : Nat) (c : UInt8) (l : List UInt8) : TUnit → Prop
  | bad : UnitOf at_ c l ⟨65533, at_, 1, true⟩
  | good (n r q : Nat) : uHead c.toNat = (n + 1, r) → uMore n l r = some q → uRight q = true → uWidth q = n + 1 → UnitOf at_ c l ⟨q, at_, (n + 1 : Nat), false⟩
theorem uFirst_of (at_ : Nat) (c : UInt8) (l : List UInt8) : UnitOf at_ c l (uFirst at_ (c :: l)) := by
  simp only [uFirst]
  split
  · exact .bad
  · rename_i n r hh
    split
    · rename_i q hq
      split
      · rename_i hg
        rw [Bool.and_eq_true] at hg
        exact .good n r q hh hq hg.1 (eq_of_beq hg.2)
      · exact .bad
    · exact .bad
theorem UnitOf.at_ {a : Nat} {c : UInt8} {l : List UInt8} {u : TUnit} (h : UnitOf a c l u) : u.At = a := by cases h <;> rfl
theorem UnitOf.width {a : Nat} {c : UInt8} {l : List UInt8} {u : TUnit} (h : UnitOf a c l u) : ∃ w : Nat, u.Width = w ∧ 1 ≤ w ∧ w ≤ l.length + 1 := by
  cases h with
  | bad => exact ⟨1, rfl, by omega, by omega⟩
  | good n r q h1 h2 h3 h4 => exact ⟨n + 1, rfl, by omega, by have := uMore_len h2; omega⟩
theorem UnitOf.rune {a : Nat} {c : UInt8} {l : List UInt8} {u : TUnit} (h : UnitOf a c l u) : 0 ≤ u.Rune ∧ u.Rune ≤ 1114111 := by
  cases h with
  | bad => exact ⟨(by decide : (0 : Int) ≤ 65533), (by decide : (65533 : Int) ≤ 1114111)⟩
  | good n r q h1 h2 h3 h4 => simp [uRight] at h3; exact ⟨by show (0 : Int) ≤ q; omega, by show (q : Int) ≤ 1114111; omega⟩
/-- A code point below 128 is its byte. -/
theorem UnitOf.ascii {a : Nat} {c : UInt8} {l : List UInt8} {u : TUnit} (h : UnitOf a c l u) (hb : u.Bad = false) (hr : u.Rune < 128) : u.Width = 1 ∧ u.Rune = c.toNat := by
  cases h with
  | bad => cases hb
  | good n r q h1 h2 h3 h4 =>
    have hq : q < 128 := by have : (q : Int) < 128 := hr; omega
    have hn : n = 0 := by unfold uWidth at h4; rw [if_pos hq] at h4; omega
    subst hn
    simp only [uMore, Option.some.injEq] at h2
    subst h2
    refine ⟨rfl, ?_⟩
    show (r : Int) = _
    unfold uHead at h1
    split at h1
    · cases h1; rfl
    split at h1
    · cases h1
    split at h1
    · cases h1
    split at h1 <;> cases h1
/-- A byte below 128 is a unit. -/
theorem uFirst_ascii (a : Nat) {c : UInt8} (l : List UInt8) (h : c.toNat < 128) : uFirst a (c :: l) = ⟨c.toNat, a, 1, false⟩ := by
  have e : uHead c.toNat = (1, c.toNat) := by unfold uHead; rw [if_pos h]
  have h1 : uRight c.toNat = true := by simp [uRight]; omega
  have h2 : uWidth c.toNat = 1 := by unfold uWidth; rw [if_pos h]
  simp only [uFirst, e, uMore, h1, h2]
  rfl
/-- The units from a place on. -/
inductive From (b : List UInt8) : Nat → List TUnit → Prop
  | nil : From b b.length []
  | cons (a w : Nat) (u : TUnit) (us : List TUnit) : a < b.length → u = uFirst a (b.drop a) → u.Width = w → From b (a + w) us → From b a (u :: us)
theorem unit_at {b : List UInt8} {a : Nat} (h : a < b.length) : UnitOf a b[a] (b.drop (a + 1)) (uFirst a (b.drop a)) := by
  rw [List.drop_eq_getElem_cons h]; exact uFirst_of _ _ _
theorem from_units (b : List UInt8) : ∀ (k a : Nat), a ≤ b.length → b.length - a ≤ k → From b a (uUnits k a (b.drop a))
  | k, a, ha, hk => by
    by_cases h : a = b.length
    · subst h
      rw [List.drop_length]
      cases k <;> exact .nil
    · have hlt : a < b.length := by omega
      obtain ⟨k, rfl⟩ : ∃ j, k = j + 1 := ⟨k - 1, by omega⟩
      obtain ⟨w, hw, h1, h2⟩ := (unit_at hlt).width
      rw [List.length_drop] at h2
      have e : uUnits (k + 1) a (b.drop a) = uFirst a (b.drop a) :: uUnits k (a + w) (b.drop (a + w)) := by
        conv => lhs; rw [List.drop_eq_getElem_cons hlt]
        simp only [uUnits]
        rw [← List.drop_eq_getElem_cons hlt, hw, List.drop_drop, Int.toNat_natCast]
      rw [e]
      exact .cons a w _ _ hlt rfl hw (from_units b k (a + w) (by omega) (by omega))
theorem from_all (b : List UInt8) : From b 0 (units b) := from_units b b.length 0 (Nat.zero_le _) (by omega)
theorem From.suf {b : List UInt8} {a : Nat} {us : List TUnit} (h : From b a us) : ∀ {vs : List TUnit}, vs <:+ us → ∃ a', a ≤ a' ∧ From b a' vs := by
  induction h with
  | nil => intro vs hv; rw [List.suffix_nil.1 hv]; exact ⟨_, Nat.le_refl _, .nil⟩
  | cons a w u us h1 h2 h3 h4 ih =>
    intro vs hv
    rcases List.suffix_cons_iff.1 hv with rfl | hv
    · exact ⟨a, Nat.le_refl _, .cons a w u us h1 h2 h3 h4⟩
    · obtain ⟨a', h5, h6⟩ := ih hv
      exact ⟨a', by omega, h6⟩
theorem From.le {b : List UInt8} {a : Nat} {us : List TUnit} (h : From b a us) : a ≤ b.length := by
  cases h with
  | nil => exact Nat.le_refl _
  | cons _ w u us h1 h2 h3 h4 => omega
theorem From.at_eq {b : List UInt8} {a : Nat} {us : List TUnit} (h : From b a us) : atU b.length us = a := by
  cases h with
  | nil => rfl
  | cons _ w u us h1 h2 h3 h4 => rw [h2]; exact (unit_at h1).at_
theorem From.head {b : List UInt8} {a : Nat} {u : TUnit} {us : List TUnit} (h : From b a (u :: us)) : ∃ (hlt : a < b.length), UnitOf a b[a] (b.drop (a + 1)) u ∧ ∃ w : Nat, u.Width = w ∧ 1 ≤ w ∧ From b (a + w) us := by
  cases h with
  | cons _ w _ _ h1 h2 h3 h4 =>
    have hu := unit_at h1
    rw [← h2] at hu
    obtain ⟨w', hw, h5, _⟩ := hu.width
    rw [h3] at hw
    exact ⟨h1, hu, w, h3, by omega, h4⟩
theorem From.len {b : List UInt8} {a : Nat} {us : List TUnit} (h : From b a us) : a + us.length ≤ b.length := by
  induction h with
  | nil => simp
  | cons a w u us h1 h2 h3 h4 ih =>
    obtain ⟨_, _, w', hw, h5, _⟩ := (From.cons a w u us h1 h2 h3 h4).head
    rw [h3] at hw
    simp only [List.length_cons]
    omega
theorem From.runes {b : List UInt8} {a : Nat} {us : List TUnit} (h : From b a us) : ∀ u ∈ us, 0 ≤ u.Rune ∧ u.Rune ≤ 1114111 := by
  induction h with
  | nil => simp
  | cons a w u us h1 h2 h3 h4 ih =>
    intro v hv
    rcases List.mem_cons.1 hv with rfl | hv
    · rw [h2]; exact (unit_at h1).rune
    · exact ih v hv
theorem fine_units {b : List UInt8} (h : b.length ≤ 1048576) : Fine (units b) := ⟨by have := (from_all b).len; omega, (from_all b).runes⟩
/-- The units are told by the bytes. -/
theorem From.eq {b : List UInt8} {a : Nat} {us vs : List TUnit} (h : From b a us) : From b a vs → us = vs := by
  induction h generalizing vs with
  | nil =>
    intro g
    cases g with
    | nil => rfl
    | cons _ w u us h1 h2 h3 h4 => omega
  | cons a w u us h1 h2 h3 h4 ih =>
    intro g
    cases g with
    | nil => omega
    | cons _ w' u' us' g1 g2 g3 g4 =>
      have e : u = u' := by rw [h2, g2]
      subst e
      rw [g3] at h3
      have : w' = w := by omega
      subst this
      rw [ih g4]
end Go.Val

/- part Q24 -/
/- Plain lemmas: the tokens of a text, as the program reads them. -/
namespace Go.Val
set_option linter.unusedVariables false
set_option linter.unusedSimpArgs false
noncomputable section
variable {U us : List TUnit} {w f : Int}
/-- The set of ranges that are some. -/
def setOf (l : List TRange) : List TRange := ((ranges_Make l).getD ([], 0)).1
theorem setOf_make {l : List TRange} (hok : ∀ x ∈ l, Ok x) (hl : l.length ≤ 1048576) : ranges_Make l = some (setOf l, 0) ∧ Norm (setOf l) ∧ ∀ t, In (setOf l) t ↔ In l t := by
  obtain ⟨out, h1, h2, h3, _⟩ := Make_ok hok (by omega)
  have : setOf l = out := by unfold setOf; rw [h1]; rfl
  rw [this]
  exact ⟨h1, h2, h3⟩
theorem setOf_norm {l : List TRange} (h : Norm l) (hl : l.length ≤ 1048576) : setOf l = l := by
  obtain ⟨_, h2, h3⟩ := setOf_make h.1 hl
  exact Norm.unique h2 h h3
def lowB (n : Int) : Bool := decide (n ≥ 97) && decide (n ≤ 122)
def goesB (n : Int) : Bool := lowB n || (decide (n ≥ 48) && decide (n ≤ 57)) || n == 95
def signB (n : Int) : Bool := ([61, 59, 47, 124, 42, 43, 63, 40, 41, 46, 126, 38, 45] : List Int).any fun c => c == n
theorem goes_eq (n : Int) : lex_goes n = some (goesB n) := by
  unfold lex_goes lex_lower goesB lowB
  cases h1 : decide (n ≥ 97) <;> cases h2 : decide (n ≤ 122) <;> cases h3 : decide (n ≥ 48) <;> cases h4 : decide (n ≤ 57) <;> simp [h3, h4]
theorem tok1_eq (n : Int) : lex_reader_token_1 n = some (lowB n || n == 91 || signB n) := by
  unfold lex_reader_token_1 lex_lower
  rw [one_eq (by decide)]
  have e : (([61, 59, 47, 124, 42, 43, 63, 40, 41, 46, 126, 38, 45] : Str).any fun c => (c.toNat : Int) == n) = signB n := rfl
  rw [e]
  have e2 : (decide (n ≥ 97) && decide (n ≤ 122)) = lowB n := rfl
  rw [e2]
  cases lowB n <;> cases h : (n == 91) <;> cases signB n <;> simp [h]
def cutB (b : List UInt8) (lo hi : Int) : List UInt8 := List.drop (Int.toNat lo) (List.take (Int.toNat hi) b)
/-- One token, ahead. -/
def tokS (b : List UInt8) : List TUnit → Pr TToken
  | [] => .err 7 []
  | u :: us => if su u = 91 then match setS (us.length + 1) [] us with
      | .ok l r => .ok ⟨3, u.At, [], setOf l⟩ r
      | .err c r => .err c r
    else if lowB (su u) then .ok ⟨1, u.At, cutB b u.At (atU b.length (us.dropWhile fun u => goesB (su u))), []⟩ (us.dropWhile fun u => goesB (su u))
    else if signB (su u) then .ok ⟨2, u.At, cutB b u.At (atU b.length us), []⟩ us
    else .err 6 (u :: us)
def tkS (b : List UInt8) : Nat → List TUnit → Pr (List TToken)
  | 0, us => .err 6 us
  | k + 1, us => if us.isEmpty then .ok [] [] else match tokS b us with
    | .err c r => .err c r
    | .ok t r => match tkS b k (blk false r) with
      | .err c r => .err c r
      | .ok ts r => .ok (t :: ts) r
/-- A text's tokens; or the error, and where. -/
def Tk (b : List UInt8) : List TToken × Int × Int :=
  match tkS b (b.length + 1) (blk false (units b)) with
  | .ok ts _ => (ts ++ [⟨4, b.length, [], []⟩], 0, 0)
  | .err c r => ([], atU b.length r, c)
variable {b : List UInt8}
/-- Where a piece of the units begins. -/
theorem at_suf (h : us <:+ units b) : ∃ a : Nat, From b a us ∧ atU b.length us = a := by
  obtain ⟨a, _, h1⟩ := (from_all b).suf h
  exact ⟨a, h1, h1.at_eq⟩
theorem From.mono {a a' : Nat} {vs : List TUnit} (h : From b a us) (h2 : vs <:+ us) (h3 : From b a' vs) : a ≤ a' := by
  obtain ⟨a2, h4, h5⟩ := h.suf h2
  have : a2 = a' := by have e1 := h5.at_eq; have e2 := h3.at_eq; rw [e1] at e2; exact_mod_cast e2
  omega
theorem cut_ok {lo hi : Nat} (h1 : lo ≤ hi) (h2 : hi ≤ b.length) : cut b (lo : Int) (hi : Int) = some (cutB b lo hi) := by
  unfold cut cutB
  rw [if_pos ⟨by omega, by omega, by omega, by simp; omega⟩]
theorem token_spec (hF : Fine (units b)) {u : TUnit} (h : (u :: us) <:+ units b) : match tokS b (u :: us) with
    | .ok t r => lex_reader_token (rd (units b) b.length (u :: us) 0) b = some (t, rd (units b) b.length r 0) ∧ r <:+ us
    | .err c r => (∃ t, lex_reader_token (rd (units b) b.length (u :: us) 0) b = some (t, rd (units b) b.length r c)) ∧ r <:+ (u :: us) ∧ c ≠ 0 := by
  obtain ⟨a, hfr, hat⟩ := at_suf h
  have hua : u.At = a := hat
  have hs := suf_tail h
  -- a token's text
  have text : ∀ (k : Int) (r : List TUnit) (f : Int), r <:+ (u :: us) → lex_reader_token.k1 b u.At k (units b) (((units b).length - r.length : Nat) : Int) b.length f = some (⟨k, u.At, cutB b u.At (atU b.length r), []⟩, rd (units b) b.length r f) := fun k r f hr => by
    obtain ⟨a', hfr', hat'⟩ := at_suf (hr.trans h)
    have hle := hfr.mono hr hfr'
    unfold lex_reader_token.k1
    have := at_eq (w := b.length) (f := f) (hr.trans h)
    simp only [rd] at this ⊢
    rw [this, Option.bind_some, hat', hua, cut_ok hle hfr'.le]
    rfl
  have hat0 : lex_reader_at (rd (units b) b.length (u :: us) 0) = some u.At := at_eq h
  by_cases h91 : su u = 91
  · have ht := take_yes (w := b.length) (p := lex_reader_token_1) hF h (by rw [tok1_eq, h91]; rfl)
    have hset := set_spec (w := b.length) hF (us.length + 1) (us := us) [] hs (by omega) (by simp) (by have := suf_len hs; have := hF.1; simp; omega)
    have e : lex_reader_token (rd (units b) b.length (u :: us) 0) b = (Loop lex_reader_set.b1 ([], units b, (((units b).length - us.length : Nat) : Int), b.length, 0)).bind fun r4 => some (⟨3, u.At, [], r4.1⟩, r4.2) := by
      unfold lex_reader_token
      rw [hat0, Option.bind_some, ht, Option.bind_some, if_pos (by simp [h91])]
      rfl
    simp only [tokS, if_pos h91, e]
    cases hss : setS (us.length + 1) [] us with
    | ok l r =>
      rw [hss] at hset
      obtain ⟨g1, g2, g3, g4, g5⟩ := hset
      rw [g1, (setOf_make g4 g5).1]
      exact ⟨rfl, g2⟩
    | err c r =>
      rw [hss] at hset
      obtain ⟨g1, g2, g3⟩ := hset
      rw [g1]
      exact ⟨⟨_, rfl⟩, g2.trans (List.suffix_cons u us), g3⟩
  · simp only [tokS, if_neg h91]
    cases hlow : lowB (su u) with
    | true =>
      have ht := take_yes (w := b.length) (p := lex_reader_token_1) hF h (by rw [tok1_eq, hlow]; rfl)
      simp only [if_true]
      have hsk := skip_rd (w := (b.length : Int)) (f := 0) hF goes_eq (by rfl) hs
      refine ⟨?_, List.dropWhile_suffix _⟩
      unfold lex_reader_token
      rw [hat0, Option.bind_some, ht, Option.bind_some, if_neg (by simpa using h91)]
      have hl : lex_lower (su u) = some (lowB (su u)) := rfl
      rw [hl, Option.bind_some, hlow, if_pos rfl, hsk, Option.bind_some]
      exact text 1 _ 0 ((List.dropWhile_suffix _).trans (List.suffix_cons u us))
    | false =>
      simp only [Bool.false_eq_true, if_false]
      have hl : lex_lower (su u) = some (lowB (su u)) := rfl
      cases hsg : signB (su u) with
      | true =>
        have ht := take_yes (w := b.length) (p := lex_reader_token_1) hF h (by rw [tok1_eq, hlow, hsg]; simp)
        simp only [if_true]
        refine ⟨?_, List.suffix_rfl⟩
        unfold lex_reader_token
        rw [hat0, Option.bind_some, ht, Option.bind_some, if_neg (by simpa using h91), hl, Option.bind_some, hlow, if_neg (by simp)]
        exact text 2 us 0 (List.suffix_cons u us)
      | false =>
        have ht := take_no (w := b.length) (p := lex_reader_token_1) hF h (by rw [tok1_eq]; simp [sgn, hlow, hsg, h91])
        simp only [Bool.false_eq_true, if_false]
        refine ⟨⟨⟨2, u.At, cutB b u.At (atU b.length (u :: us)), []⟩, ?_⟩, List.suffix_rfl, by decide⟩
        unfold lex_reader_token
        rw [hat0, Option.bind_some, ht, Option.bind_some, if_neg (by simp)]
        have hl0 : lex_lower 0 = some false := rfl
        simp only [hl0, Option.bind_some, Bool.false_eq_true, if_false]
        exact text 2 (u :: us) 6 List.suffix_rfl
theorem blk_len (us : List TUnit) : (blk false us).length ≤ us.length := (blk_suf false us).length_le
theorem toks_spec (hF : Fine (units b)) : ∀ (k : Nat) {us : List TUnit} (out : List TToken), us <:+ units b → us.length < k → out.length + us.length ≤ 1048576 →
    Loop (lex_Tokens.b1 b) (out, units b, (((units b).length - us.length : Nat) : Int), b.length, 0) = some (match tkS b k us with
      | .ok ts _ => (out ++ ts ++ [⟨4, b.length, [], []⟩], 0, 0)
      | .err c r => ([], atU b.length r, c))
  | 0, us, out, _, hk, _ => absurd hk (Nat.not_lt_zero _)
  | k + 1, us, out, h, hk, hl => by
    have hn : lex_reader_now ⟨units b, (((units b).length - us.length : Nat) : Int), b.length, 0⟩ = some (sgn us) := now_eq h
    cases us with
    | nil =>
      simp only [tkS, List.isEmpty_nil, if_true, List.append_nil]
      refine Loop_done ?_
      simp only [lex_Tokens.b1]
      rw [hn, Option.bind_some, if_neg (by simp [sgn])]
      unfold lex_Tokens.k1
      rw [room_ok (by simp at hl; omega)]; rfl
    | cons u us =>
      have hne := su_ne hF h
      have hts := token_spec hF h
      simp only [tkS, List.isEmpty_cons, Bool.false_eq_true, if_false]
      have hb : ∀ y, lex_reader_token (rd (units b) b.length (u :: us) 0) b = some y → lex_Tokens.b1 b (out, units b, (((units b).length - (u :: us).length : Nat) : Int), b.length, 0) =
          if (y.2.fault != (0 : Int)) then (lex_reader_at y.2).bind fun r4 => some (Step.done (([] : List TToken), r4, y.2.fault)) else (lex_reader_blank y.2).bind fun r5 => some (Step.next ((out ++ ([y.1])), r5.units, r5.place, r5.whole, r5.fault)) := fun y hy => by
        simp only [lex_Tokens.b1]
        rw [hn, Option.bind_some, if_pos (by simpa [sgn] using hne)]
        simp only [rd] at hy
        rw [hy, Option.bind_some, room_ok (by simp at hl; omega)]; rfl
      cases htk : tokS b (u :: us) with
      | err c r =>
        rw [htk] at hts
        obtain ⟨⟨t, ht⟩, hr, hc⟩ := hts
        refine Loop_done ?_
        rw [hb _ ht, if_pos (by simpa [rd] using hc), at_eq (hr.trans h)]; rfl
      | ok t r =>
        rw [htk] at hts
        obtain ⟨ht, hr⟩ := hts
        have hr' := hr.trans (suf_tail h)
        have hlr := hr.length_le
        have hlb := blk_len r
        have hstep : Loop (lex_Tokens.b1 b) (out, units b, (((units b).length - (u :: us).length : Nat) : Int), b.length, 0) = Loop (lex_Tokens.b1 b) (out ++ [t], units b, (((units b).length - (blk false r).length : Nat) : Int), b.length, 0) := by
          refine Loop_next ?_
          rw [hb _ ht, if_neg (by simp [rd]), blank_eq hF hr']; rfl
        rw [hstep, toks_spec hF k (us := blk false r) (out ++ [t]) ((blk_suf false r).trans hr') (by simp at hk; omega) (by simp at hl ⊢; omega)]
        simp only
        cases htk2 : tkS b k (blk false r) with
        | err c r => rfl
        | ok ts r => simp
/-- The program's tokens. -/
theorem Tokens_eq (hl : b.length ≤ 65536) : lex_Tokens b = some (Tk b) := by
  have hF := fine_units (b := b) (by omega)
  unfold lex_Tokens
  rw [if_neg (by simp; omega)]
  have hd : utf_Decode b = some (units b) := by unfold utf_Decode; rw [if_pos (by omega)]
  have hul := (from_all b).len
  have hbl := blank_eq (w := (b.length : Int)) (f := 0) hF (us := units b) List.suffix_rfl
  simp only [rd, Nat.sub_self, Int.natCast_zero] at hbl
  have hz : ((0 : Nat) : Int) = 0 := rfl
  rw [hd, Option.bind_some, hbl, Option.bind_some]
  have hlb := blk_len (units b)
  rw [toks_spec hF (b.length + 1) (us := blk false (units b)) [] (blk_suf false _) (by omega) (by simp; omega)]
  unfold Tk
  cases tkS b (b.length + 1) (blk false (units b)) <;> simp
theorem Tokens_full (hl : 65536 < b.length) : lex_Tokens b = some ([], 0, 3) := by
  unfold lex_Tokens
  rw [if_pos (by simp; omega)]
end
end Go.Val

/- part Q25 -/
/- Plain lemmas: the reference's units are the program's. -/
namespace Go.Val
set_option linter.unusedVariables false
set_option linter.unusedSimpArgs false
theorem u8w {n : Nat} : u8 (IntKind.u8.wrap (n : Int)) = UInt8.ofNat n := by
  apply UInt8.toNat_inj.1
  have h := u8_wrap (n := (n : Int))
  have e : IntKind.u8.wrap (n : Int) = (n : Int) % 256 := by simp [IntKind.wrap, IntKind.signed, IntKind.bits]
  rw [e] at h
  rw [e]
  simp only [UInt8.toNat_ofNat'] at *
  omega
def encN (r : Nat) : List UInt8 :=
  if r < 128 then [UInt8.ofNat r] else if r < 2048 then [UInt8.ofNat (192 + r / 64), UInt8.ofNat (128 + r % 64)]
  else if r < 65536 then [UInt8.ofNat (224 + r / 4096), UInt8.ofNat (128 + r / 64 % 64), UInt8.ofNat (128 + r % 64)]
  else [UInt8.ofNat (240 + r / 262144), UInt8.ofNat (128 + r / 4096 % 64), UInt8.ofNat (128 + r / 64 % 64), UInt8.ofNat (128 + r % 64)]
theorem isRune_eq (r : Nat) : scansionref01_IsRune (r : Int) = some (uRight r) := by
  unfold scansionref01_IsRune uRight
  have e0 : decide ((r : Int) ≥ 0) = true := decide_eq_true (by omega)
  have e1 : decide ((r : Int) ≤ 1114111) = decide (r ≤ 1114111) := decide_eq_decide.2 (by omega)
  have e2 : decide ((r : Int) < 55296) = decide (r < 55296) := decide_eq_decide.2 (by omega)
  have e3 : decide ((r : Int) > 57343) = decide (r > 57343) := decide_eq_decide.2 (by omega)
  rw [e0, e1, e2, e3, Bool.true_and]
theorem tdivN (r k : Nat) : Int.tdiv (r : Int) (k : Int) = ((r / k : Nat) : Int) := by rw [Int.ofNat_tdiv]
theorem tmodN (r k : Nat) : Int.tmod (r : Int) (k : Int) = ((r % k : Nat) : Int) := by rw [Int.ofNat_tmod]
theorem w64N {n : Nat} (h : n ≤ 9223372036854775807) : IntKind.i64.wrap (n : Int) = (n : Int) := w64 (by omega) (by omega)
theorem Encode_eq {r : Nat} (hr : r ≤ 4194304) : scansionref01_Encode (r : Int) = some (if uRight r then (encN r, 0) else ([], 1)) := by
  unfold scansionref01_Encode
  rw [isRune_eq, Option.bind_some]
  cases h : uRight r with
  | false => rfl
  | true =>
    rw [if_neg (by simp)]
    have d1 : Int.tdiv (r : Int) (64 : Int) = ((r / 64 : Nat) : Int) := tdivN r 64
    have d2 : Int.tdiv (r : Int) (4096 : Int) = ((r / 4096 : Nat) : Int) := tdivN r 4096
    have d3 : Int.tdiv (r : Int) (262144 : Int) = ((r / 262144 : Nat) : Int) := tdivN r 262144
    have m1 : Int.tmod (r : Int) (64 : Int) = ((r % 64 : Nat) : Int) := tmodN r 64
    have m2 : Int.tmod ((r / 64 : Nat) : Int) (64 : Int) = ((r / 64 % 64 : Nat) : Int) := tmodN _ 64
    have m3 : Int.tmod ((r / 4096 : Nat) : Int) (64 : Int) = ((r / 4096 % 64 : Nat) : Int) := tmodN _ 64
    rw [d1, d2, d3, m1, w64N (n := r / 64) (by omega), w64N (n := r / 4096) (by omega), w64N (n := r / 262144) (by omega), m2, m3]
    have a : ∀ (k n : Nat), k + n ≤ 9223372036854775807 → u8 (IntKind.u8.wrap (IntKind.i64.wrap ((k : Int) + (n : Int)))) = UInt8.ofNat (k + n) := fun k n h => by
      rw [← Int.natCast_add, w64N h, u8w]
    have a1 := a 192 (r / 64) (by omega)
    have a2 := a 128 (r % 64) (by omega)
    have a3 := a 224 (r / 4096) (by omega)
    have a4 := a 128 (r / 64 % 64) (by omega)
    have a5 := a 240 (r / 262144) (by omega)
    have a6 := a 128 (r / 4096 % 64) (by omega)
    simp only [Int.cast_ofNat_Int] at a1 a2 a3 a4 a5 a6
    unfold encN
    rw [u8w]
    by_cases h1 : r < 128
    · rw [if_pos (by simpa using (by omega : (r : Int) < 128)), if_pos h1]; rfl
    · rw [if_neg (by simp; omega), if_neg h1]
      by_cases h2 : r < 2048
      · rw [if_pos (by simp; omega), if_pos h2]; simp only [if_true]; rw [← a1, ← a2]
      · rw [if_neg (by simp; omega), if_neg h2]
        by_cases h3 : r < 65536
        · rw [if_pos (by simp; omega), if_pos h3]; simp only [if_true]; rw [← a3, ← a4, ← a2]
        · rw [if_neg (by simp; omega), if_neg h3]; simp only [if_true]; rw [← a5, ← a6, ← a4, ← a2]
theorem low_eq (d : UInt8) : scansionref01_low d = some ((d.toNat % 64 : Nat) : Int) := by
  unfold scansionref01_low
  have m : Int.tmod (d.toNat : Int) (64 : Int) = ((d.toNat % 64 : Nat) : Int) := tmodN _ 64
  rw [m, w64N (by omega)]
/-- What the reference makes of a number that bytes may be. -/
def pickR (b : List UInt8) (r n : Nat) : TUnit := if uRight r && (encN r == b.take n) then ⟨r, 0, n, false⟩ else ⟨65533, 0, 1, true⟩
theorem k1_eq {b : List UInt8} {r n : Nat} (hr : r ≤ 4194304) (hn : n ≤ b.length) : scansionref01_first.k1 b (r : Int) (n : Int) = some (pickR b r n) := by
  unfold scansionref01_first.k1 pickR
  rw [Encode_eq hr, Option.bind_some]
  cases h : uRight r with
  | false => rfl
  | true =>
    have hc : cutH b (n : Int) = some (b.take n) := by
      unfold cutH; rw [if_pos ⟨by omega, by omega⟩, Int.toNat_natCast]
    simp only [if_true]
    rw [if_neg (by simp), hc, Option.bind_some, Option.bind_some, Int.toNat_natCast, Bool.true_and]
    cases (encN r == b.take n) <;> rfl
theorem k1_neg (b : List UInt8) : scansionref01_first.k1 b (-1) 1 = some ⟨65533, 0, 1, true⟩ := rfl
theorem ofNat_eq {n : Nat} {d : UInt8} (h : n < 256) : UInt8.ofNat n = d ↔ n = d.toNat := by
  constructor
  · intro e; rw [← e]; simp [UInt8.toNat_ofNat']; omega
  · intro e; rw [e]; simp
theorem uFirst_at0 (a : Nat) (l : List UInt8) : uFirst a l = ⟨(uFirst 0 l).Rune, a, (uFirst 0 l).Width, (uFirst 0 l).Bad⟩ := by
  cases l with
  | nil => rfl
  | cons c l =>
    simp only [uFirst]
    split
    · rfl
    · split
      · split <;> rfl
      · rfl
theorem more_one (d : UInt8) (t : List UInt8) (n r : Nat) : uMore (n + 1) (d :: t) r = if d.toNat / 64 = 2 then uMore n t (r * 64 + d.toNat % 64) else none := rfl
theorem beqL {a b : List UInt8} {p : Prop} [Decidable p] (h : a = b ↔ p) : (a == b) = decide p := by
  by_cases hp : p
  · rw [decide_eq_true hp]; simpa using h.2 hp
  · rw [decide_eq_false hp]; simpa using fun e => hp (h.1 e)
/-- A number that bytes may be: as the program tells it. -/
theorem pick1 {c : UInt8} {t : List UInt8} (h : c.toNat < 128) : pickR (c :: t) c.toNat 1 = uFirst 0 (c :: t) := by
  rw [uFirst_ascii 0 t h]
  unfold pickR
  have h1 : uRight c.toNat = true := by simp [uRight]; omega
  have h2 : encN c.toNat = [c] := by unfold encN; rw [if_pos h]; simp
  rw [h1, h2]; simp
theorem pick2 {c d : UInt8} {t : List UInt8} (h1 : 192 ≤ c.toNat) (h2 : c.toNat < 224) : pickR (c :: d :: t) ((c.toNat - 192) * 64 + d.toNat % 64) 2 = uFirst 0 (c :: d :: t) := by
  have hd := d.toNat_lt
  unfold pickR
  generalize hr : (c.toNat - 192) * 64 + d.toNat % 64 = r
  have hR : uRight r = true := by simp [uRight]; omega
  have hx : encN r = List.take 2 (c :: d :: t) ↔ (194 ≤ c.toNat ∧ d.toNat / 64 = 2) := by
    unfold encN
    by_cases h128 : r < 128
    · rw [if_pos h128]; simp; omega
    · rw [if_neg h128, if_pos (by omega)]
      simp only [List.take_succ_cons, List.take_zero, List.cons.injEq, and_true]
      rw [ofNat_eq (by omega), ofNat_eq (by omega)]
      omega
  rw [hR, beqL hx, Bool.true_and]
  simp only [uFirst]
  by_cases h194 : 194 ≤ c.toNat
  · have hh : uHead c.toNat = (2, c.toNat % 32) := by unfold uHead; rw [if_neg (by omega), if_pos ⟨h194, h2⟩]
    rw [hh]
    simp only [more_one, uMore]
    by_cases hd2 : d.toNat / 64 = 2
    · rw [if_pos hd2, if_pos (by simpa using ⟨h194, hd2⟩)]
      have e : c.toNat % 32 * 64 + d.toNat % 64 = r := by omega
      have hw : uWidth r = 2 := by unfold uWidth; rw [if_neg (by omega), if_pos (by omega)]
      simp only [e, hR, hw]; rfl
    · rw [if_neg hd2, if_neg (by simp; omega)]; rfl
  · have hh : uHead c.toNat = (0, c.toNat) := by unfold uHead; rw [if_neg (by omega), if_neg (by omega), if_neg (by omega), if_neg (by omega)]
    rw [hh, if_neg (by simp; omega)]; rfl
theorem pick3 {c d e : UInt8} {t : List UInt8} (h1 : 224 ≤ c.toNat) (h2 : c.toNat < 240) : pickR (c :: d :: e :: t) ((c.toNat - 224) * 4096 + d.toNat % 64 * 64 + e.toNat % 64) 3 = uFirst 0 (c :: d :: e :: t) := by
  have hd := d.toNat_lt; have he := e.toNat_lt
  unfold pickR
  generalize hr : (c.toNat - 224) * 4096 + d.toNat % 64 * 64 + e.toNat % 64 = r
  have hx : encN r = List.take 3 (c :: d :: e :: t) ↔ (2048 ≤ r ∧ d.toNat / 64 = 2 ∧ e.toNat / 64 = 2) := by
    unfold encN
    by_cases h128 : r < 128
    · rw [if_pos h128]; simp; omega
    · rw [if_neg h128]
      by_cases h2048 : r < 2048
      · rw [if_pos h2048]; simp; omega
      · rw [if_neg h2048, if_pos (by omega)]
        simp only [List.take_succ_cons, List.take_zero, List.cons.injEq, and_true]
        rw [ofNat_eq (by omega), ofNat_eq (by omega), ofNat_eq (by omega)]
        omega
  rw [beqL hx]
  have hh : uHead c.toNat = (3, c.toNat % 16) := by unfold uHead; rw [if_neg (by omega), if_neg (by omega), if_pos ⟨h1, h2⟩]
  simp only [uFirst, hh, more_one, uMore]
  by_cases hd2 : d.toNat / 64 = 2
  · by_cases he2 : e.toNat / 64 = 2
    · rw [if_pos hd2, if_pos he2]
      have e' : (c.toNat % 16 * 64 + d.toNat % 64) * 64 + e.toNat % 64 = r := by omega
      simp only [e']
      have hw : (uWidth r == 2 + 1) = decide (2048 ≤ r) := by
        unfold uWidth
        by_cases h128 : r < 128
        · rw [if_pos h128]; symm; simp; omega
        · rw [if_neg h128]
          by_cases h2048 : r < 2048
          · rw [if_pos h2048]; symm; simp; omega
          · rw [if_neg h2048, if_pos (by omega)]; symm; simp; omega
      rw [hw]
      have : decide (2048 ≤ r ∧ d.toNat / 64 = 2 ∧ e.toNat / 64 = 2) = decide (2048 ≤ r) := decide_eq_decide.2 (by simp [hd2, he2])
      rw [this]; rfl
    · rw [if_pos hd2, if_neg he2, if_neg (by simp; omega)]; rfl
  · rw [if_neg hd2, if_neg (by simp; omega)]; rfl
theorem pick4 {c d e f : UInt8} {t : List UInt8} (h1 : 240 ≤ c.toNat) (h2 : c.toNat < 248) : pickR (c :: d :: e :: f :: t) ((c.toNat - 240) * 262144 + d.toNat % 64 * 4096 + e.toNat % 64 * 64 + f.toNat % 64) 4 = uFirst 0 (c :: d :: e :: f :: t) := by
  have hd := d.toNat_lt; have he := e.toNat_lt; have hf := f.toNat_lt
  unfold pickR
  generalize hr : (c.toNat - 240) * 262144 + d.toNat % 64 * 4096 + e.toNat % 64 * 64 + f.toNat % 64 = r
  by_cases h245 : c.toNat < 245
  · have hx : encN r = List.take 4 (c :: d :: e :: f :: t) ↔ (65536 ≤ r ∧ d.toNat / 64 = 2 ∧ e.toNat / 64 = 2 ∧ f.toNat / 64 = 2) := by
      unfold encN
      by_cases h128 : r < 128
      · rw [if_pos h128]; simp; omega
      · rw [if_neg h128]
        by_cases h2048 : r < 2048
        · rw [if_pos h2048]; simp; omega
        · rw [if_neg h2048]
          by_cases h65536 : r < 65536
          · rw [if_pos h65536]; simp; omega
          · rw [if_neg h65536]
            simp only [List.take_succ_cons, List.take_zero, List.cons.injEq, and_true]
            rw [ofNat_eq (by omega), ofNat_eq (by omega), ofNat_eq (by omega), ofNat_eq (by omega)]
            omega
    rw [beqL hx]
    have hh : uHead c.toNat = (4, c.toNat % 8) := by unfold uHead; rw [if_neg (by omega), if_neg (by omega), if_neg (by omega), if_pos ⟨h1, h245⟩]
    simp only [uFirst, hh, more_one, uMore]
    by_cases hd2 : d.toNat / 64 = 2
    · by_cases he2 : e.toNat / 64 = 2
      · by_cases hf2 : f.toNat / 64 = 2
        · rw [if_pos hd2, if_pos he2, if_pos hf2]
          have e' : ((c.toNat % 8 * 64 + d.toNat % 64) * 64 + e.toNat % 64) * 64 + f.toNat % 64 = r := by omega
          simp only [e']
          have hw : (uWidth r == 3 + 1) = decide (65536 ≤ r) := by
            unfold uWidth
            by_cases h128 : r < 128
            · rw [if_pos h128]; symm; simp; omega
            · rw [if_neg h128]
              by_cases h2048 : r < 2048
              · rw [if_pos h2048]; symm; simp; omega
              · rw [if_neg h2048]
                by_cases h65536 : r < 65536
                · rw [if_pos h65536]; symm; simp; omega
                · rw [if_neg h65536]; symm; simp; omega
          rw [hw]
          have : decide (65536 ≤ r ∧ d.toNat / 64 = 2 ∧ e.toNat / 64 = 2 ∧ f.toNat / 64 = 2) = decide (65536 ≤ r) := decide_eq_decide.2 (by simp [hd2, he2, hf2])
          rw [this]; rfl
        · rw [if_pos hd2, if_pos he2, if_neg hf2, if_neg (by simp; omega)]; rfl
      · rw [if_pos hd2, if_neg he2, if_neg (by simp; omega)]; rfl
    · rw [if_neg hd2, if_neg (by simp; omega)]; rfl
  · have hR : uRight r = false := by simp [uRight]; omega
    have hh : uHead c.toNat = (0, c.toNat) := by unfold uHead; rw [if_neg (by omega), if_neg (by omega), if_neg (by omega), if_neg (by omega)]
    simp only [uFirst, hh, hR]; rfl
theorem first_eq (c : UInt8) (t : List UInt8) : scansionref01_first (c :: t) = some (uFirst 0 (c :: t)) := by
  have hc := c.toNat_lt
  have sub : ∀ k : Nat, k ≤ c.toNat → IntKind.i64.wrap (IntKind.u8.wrap ((c.toNat : Int) - (k : Int))) = ((c.toNat - k : Nat) : Int) := fun k hk => by
    have e : IntKind.u8.wrap ((c.toNat : Int) - (k : Int)) = ((c.toNat - k : Nat) : Int) := by
      have : IntKind.u8.wrap ((c.toNat : Int) - (k : Int)) = ((c.toNat : Int) - (k : Int)) % 256 := by simp [IntKind.wrap, IntKind.signed, IntKind.bits]
      rw [this]; omega
    rw [e, w64N (by omega)]
  have mulW : ∀ a k : Nat, a ≤ 1000 → k ≤ 262144 → IntKind.i64.wrap ((a : Int) * (k : Int)) = ((a * k : Nat) : Int) := fun a k h1 h2 => by
    rw [← Int.natCast_mul, w64N]
    calc a * k ≤ 1000 * 262144 := Nat.mul_le_mul h1 h2
      _ ≤ 9223372036854775807 := by decide
  have addW : ∀ a k : Nat, a ≤ 1000000000 → k ≤ 1000000000 → IntKind.i64.wrap ((a : Int) + (k : Int)) = ((a + k : Nat) : Int) := fun a k h1 h2 => by
    rw [← Int.natCast_add, w64N (by omega)]
  unfold scansionref01_first
  rw [List.getElem?_cons_zero, Option.bind_some]
  by_cases h1 : c.toNat < 128
  · rw [if_pos (by simpa using (by omega : (c.toNat : Int) < 128)), w64N (by omega)]
    have := k1_eq (b := c :: t) (r := c.toNat) (n := 1) (by omega) (by simp)
    rw [show ((1 : Nat) : Int) = 1 from rfl] at this
    rw [this, pick1 h1]
  rw [if_neg (by simp; omega)]
  -- nothing goes on
  have no : uHead c.toNat = (0, c.toNat) → some (⟨65533, 0, 1, true⟩ : TUnit) = some (uFirst 0 (c :: t)) := fun h => by
    simp only [uFirst, h]; rfl
  have short : ∀ n r, uHead c.toNat = (n + 1, r) → t.length < n → some (⟨65533, 0, 1, true⟩ : TUnit) = some (uFirst 0 (c :: t)) := fun n r h hl => by
    simp only [uFirst, h]
    cases hm : uMore n t r with
    | none => rfl
    | some q => have := uMore_len hm; omega
  by_cases h2 : 192 ≤ c.toNat ∧ c.toNat < 224
  · cases t with
    | nil =>
      rw [if_neg (by simp), if_neg (by simp), if_neg (by simp), k1_neg]
      by_cases h194 : 194 ≤ c.toNat
      · exact short 1 (c.toNat % 32) (by unfold uHead; rw [if_neg h1, if_pos ⟨h194, h2.2⟩]) (by simp)
      · exact no (by unfold uHead; rw [if_neg h1, if_neg (by omega), if_neg (by omega), if_neg (by omega)])
    | cons d t =>
      rw [if_pos (by simp; omega)]
      simp only [List.getElem?_cons_succ, List.getElem?_cons_zero, Option.bind_some, low_eq]
      have s := sub 192 h2.1
      have m := mulW (c.toNat - 192) 64 (by omega) (by omega)
      have a := addW ((c.toNat - 192) * 64) (d.toNat % 64) (by omega) (by omega)
      simp only [Int.cast_ofNat_Int] at s m
      rw [s, m, a]
      have := k1_eq (b := c :: d :: t) (r := (c.toNat - 192) * 64 + d.toNat % 64) (n := 2) (by omega) (by simp)
      rw [show ((2 : Nat) : Int) = 2 from rfl] at this
      rw [this, pick2 h2.1 h2.2]
  rw [if_neg (by simp; omega)]
  by_cases h3 : 224 ≤ c.toNat ∧ c.toNat < 240
  · match t with
    | [] =>
      rw [if_neg (by simp), if_neg (by simp), k1_neg]
      exact short 2 (c.toNat % 16) (by unfold uHead; rw [if_neg h1, if_neg (by omega), if_pos h3]) (by simp)
    | [d] =>
      rw [if_neg (by simp), if_neg (by simp), k1_neg]
      exact short 2 (c.toNat % 16) (by unfold uHead; rw [if_neg h1, if_neg (by omega), if_pos h3]) (by simp)
    | d :: e :: t =>
      rw [if_pos (by simp; omega)]
      simp only [List.getElem?_cons_succ, List.getElem?_cons_zero, Option.bind_some, low_eq]
      have s := sub 224 h3.1
      have m := mulW (c.toNat - 224) 4096 (by omega) (by omega)
      have m2 := mulW (d.toNat % 64) 64 (by omega) (by omega)
      have a := addW ((c.toNat - 224) * 4096) (d.toNat % 64 * 64) (by omega) (by omega)
      have a2 := addW ((c.toNat - 224) * 4096 + d.toNat % 64 * 64) (e.toNat % 64) (by omega) (by omega)
      simp only [Int.cast_ofNat_Int] at s m m2
      rw [s, m, m2, a, a2]
      have := k1_eq (b := c :: d :: e :: t) (r := (c.toNat - 224) * 4096 + d.toNat % 64 * 64 + e.toNat % 64) (n := 3) (by omega) (by simp)
      rw [show ((3 : Nat) : Int) = 3 from rfl] at this
      rw [this, pick3 h3.1 h3.2]
  rw [if_neg (by simp; omega)]
  by_cases h4 : 240 ≤ c.toNat ∧ c.toNat < 248
  · have shrt : t.length < 3 → some (⟨65533, 0, 1, true⟩ : TUnit) = some (uFirst 0 (c :: t)) := fun hl => by
      by_cases h245 : c.toNat < 245
      · exact short 3 (c.toNat % 8) (by unfold uHead; rw [if_neg h1, if_neg (by omega), if_neg (by omega), if_pos ⟨h4.1, h245⟩]) hl
      · exact no (by unfold uHead; rw [if_neg h1, if_neg (by omega), if_neg (by omega), if_neg (by omega)])
    match t with
    | [] => rw [if_neg (by simp), k1_neg]; exact shrt (by simp)
    | [d] => rw [if_neg (by simp), k1_neg]; exact shrt (by simp)
    | [d, e] => rw [if_neg (by simp), k1_neg]; exact shrt (by simp)
    | d :: e :: f :: t =>
      rw [if_pos (by simp; omega)]
      simp only [List.getElem?_cons_succ, List.getElem?_cons_zero, Option.bind_some, low_eq]
      have s := sub 240 h4.1
      have m := mulW (c.toNat - 240) 262144 (by omega) (by omega)
      have m2 := mulW (d.toNat % 64) 4096 (by omega) (by omega)
      have m3 := mulW (e.toNat % 64) 64 (by omega) (by omega)
      have a := addW ((c.toNat - 240) * 262144) (d.toNat % 64 * 4096) (by omega) (by omega)
      have a2 := addW ((c.toNat - 240) * 262144 + d.toNat % 64 * 4096) (e.toNat % 64 * 64) (by omega) (by omega)
      have a3 := addW ((c.toNat - 240) * 262144 + d.toNat % 64 * 4096 + e.toNat % 64 * 64) (f.toNat % 64) (by omega) (by omega)
      simp only [Int.cast_ofNat_Int] at s m m2 m3
      rw [s, m, m2, m3, a, a2, a3]
      have := k1_eq (b := c :: d :: e :: f :: t) (r := (c.toNat - 240) * 262144 + d.toNat % 64 * 4096 + e.toNat % 64 * 64 + f.toNat % 64) (n := 4) (by omega) (by simp)
      rw [show ((4 : Nat) : Int) = 4 from rfl] at this
      rw [this, pick4 h4.1 h4.2]
  rw [if_neg (by simp; omega), k1_neg]
  exact no (by unfold uHead; rw [if_neg h1, if_neg (by omega), if_neg (by omega), if_neg (by omega)])
theorem refDecode_eq {b : List UInt8} (hl : b.length ≤ 1048576) : scansionref01_Decode b = some (units b) := by
  have key : ∀ (n : Nat) (a : Nat) (us out : List TUnit), From b a us → us.length ≤ n → out.length + us.length ≤ 1048576 → Loop (scansionref01_Decode.b1 b) (out, (a : Int)) = some (out ++ us) := by
    intro n
    induction n with
    | zero =>
      intro a us out h hn _
      have : us = [] := List.length_eq_zero_iff.1 (by omega)
      subst this
      cases h
      refine Loop_done ?_
      simp only [scansionref01_Decode.b1]
      rw [if_neg (by simp)]; simp [scansionref01_Decode.k1]
    | succ n ih =>
      intro a us out h hn ho
      cases us with
      | nil =>
        cases h
        refine Loop_done ?_
        simp only [scansionref01_Decode.b1]
        rw [if_neg (by simp)]; simp [scansionref01_Decode.k1]
      | cons u us =>
        obtain ⟨hlt, _, w, hw, h1, h2⟩ := h.head
        have hu : u = uFirst a (b.drop a) := by cases h with | cons _ _ _ _ _ h _ _ => exact h
        have hle := h2.le
        rw [Loop_next (s' := (out ++ [u], ((a + w : Nat) : Int)))]
        · rw [ih (a + w) us (out ++ [u]) h2 (by simp at hn; omega) (by simp at ho ⊢; omega)]; simp
        · simp only [scansionref01_Decode.b1]
          have hcut : cutL b (a : Int) = some (b.drop a) := by unfold cutL; rw [if_pos ⟨by omega, by omega⟩, Int.toNat_natCast]
          have hf : scansionref01_first (b.drop a) = some (uFirst 0 (b.drop a)) := by rw [List.drop_eq_getElem_cons hlt]; exact first_eq _ _
          have hx := uFirst_at0 a (b.drop a)
          rw [← hu] at hx
          have hw0 : (uFirst 0 (b.drop a)).Width = w := by rw [hx] at hw; exact hw
          rw [if_pos (by simpa using (by omega : (a : Int) < b.length)), hcut, Option.bind_some, Int.toNat_natCast, hf, Option.bind_some, room_ok (by simp at ho; omega), Option.bind_some]
          have e : IntKind.i64.wrap ((a : Int) + (w : Int)) = ((a + w : Nat) : Int) := by rw [← Int.natCast_add, w64N (by omega)]
          rw [hw0, e]
          rw [hx, hw0]
  have := key (units b).length 0 (units b) [] (from_all b) (Nat.le_refl _) (by have := (from_all b).len; simp; omega)
  simpa [scansionref01_Decode] using this
end Go.Val

/- part Q26 -/
/- Plain lemmas: the reference's tokens are the program's. -/
namespace Go.Val
set_option linter.unusedVariables false
set_option linter.unusedSimpArgs false
noncomputable section
variable {U us : List TUnit} {b : List UInt8}
/-- Units of which a bad one is told as U+FFFD. -/
def Told (U : List TUnit) : Prop := ∀ u ∈ U, u.Bad = true → u.Rune = 65533
theorem told_units (b : List UInt8) : Told (units b) := by
  intro u hu hb
  obtain ⟨t, s, rfl'⟩ := List.append_of_mem hu
  obtain ⟨a, _, h⟩ := (from_all b).suf (vs := u :: s) ⟨t, rfl'.symm⟩
  obtain ⟨_, h2, _⟩ := h.head
  cases h2 with
  | bad => rfl
  | good n r q h1 h2 h3 h4 => cases hb
/-- Where a piece of the units stands. -/
def ix (U us : List TUnit) : Int := ((U.length - us.length : Nat) : Int)
theorem Told.one {u : TUnit} (hT : Told U) (h : (u :: us) <:+ U) (hb : u.Bad = true) : u.Rune = 65533 := hT u (h.subset (by simp)) hb
theorem rune_is {u : TUnit} (hT : Told U) (h : (u :: us) <:+ U) {n : Int} (h0 : 0 ≤ n) (h1 : n < 65533) : (u.Rune == n) = (su u == n) := by
  unfold su
  cases hb : u.Bad with
  | false => rfl
  | true =>
    have a : ((65533 : Int) == n) = false := by simp; omega
    have c : ((-2 : Int) == n) = false := by simp; omega
    rw [hT.one h hb, a]; simp only [if_true, c]
theorem rune_p {u : TUnit} (hT : Told U) (h : (u :: us) <:+ U) {p : Int → Bool} (h0 : p 65533 = p (-2)) : p u.Rune = p (su u) := by
  unfold su
  cases hb : u.Bad with
  | false => rfl
  | true => have := hT.one h hb; rw [this]; simpa using h0
theorem ix_lt {u : TUnit} (h : (u :: us) <:+ U) : ix U (u :: us) < U.length := by have := suf_len h; simp only [ix, List.length_cons] at *; omega
theorem ix_nil : ix U [] = U.length := by simp [ix]
theorem ix_get {u : TUnit} (h : (u :: us) <:+ U) : idx U (ix U (u :: us)) = some u := by
  unfold ix
  rw [idx_nat, suf_get h]; rfl
theorem ix_step {u : TUnit} (hF : Fine U) (h : (u :: us) <:+ U) : IntKind.i64.wrap (ix U (u :: us) + 1) = ix U us := rd_step hF h
theorem ix_if {α : Type} (h : us <:+ U) (x y : α) : (if decide (ix U us < (U.length : Int)) = true then x else y) = if us.isEmpty then y else x := by
  cases us with
  | nil => rw [ix_nil]; simp
  | cons u us => rw [if_pos (by simpa using ix_lt h)]; rfl
theorem ix_ge {α : Type} (h : us <:+ U) (x y : α) : (if decide (ix U us ≥ (U.length : Int)) = true then x else y) = if us.isEmpty then x else y := by
  cases us with
  | nil => rw [ix_nil]; simp
  | cons u us => rw [if_neg (by have := ix_lt h; simp; omega)]; rfl
/-! ### blanks -/
theorem rb2_eq (hF : Fine U) (hT : Told U) : ∀ {us : List TUnit}, us <:+ U → Loop (scansionref07_blank.b2 U) (ix U us) = scansionref07_blank.k4 U (ix U (us.dropWhile fun u => inNote (su u)))
  | [], h => by
    refine Loop_end ?_
    simp only [scansionref07_blank.b2]
    rw [ix_if h]; rfl
  | u :: us, h => by
    have e : (if (u.Rune != (10 : Int)) = true then some (!u.Bad) else some false) = some (inNote (su u)) := by
      have h1 := su_ne hF h
      have hr := rune_is hT h (n := 10) (by decide) (by decide)
      have : (u.Rune != (10 : Int)) = (su u != 10) := by simp only [bne, hr]
      rw [this]
      cases hb : u.Bad with
      | true =>
        have : su u = -2 := by unfold su; rw [hb]; rfl
        rw [this]; rfl
      | false =>
        have h2 : su u ≠ -2 := by
          have := (hF.one h).1
          unfold su; rw [hb]; simp; omega
        cases hx : (su u != 10) with
        | true => simp [inNote, hx, h1, h2]
        | false => simp [inNote, hx]
    have hb : scansionref07_blank.b2 U (ix U (u :: us)) = if inNote (su u) then some (.next (ix U us)) else (scansionref07_blank.k4 U (ix U (u :: us))).map Step.done := by
      simp only [scansionref07_blank.b2]
      rw [ix_if h]
      simp only [List.isEmpty_cons, Bool.false_eq_true, if_false]
      rw [ix_get h, Option.bind_some, e, Option.bind_some, ix_step hF h]
    rw [List.dropWhile_cons]
    cases hn : inNote (su u) with
    | true => rw [Loop_next (by rw [hb, hn]; rfl), rb2_eq hF hT (suf_tail h)]; rfl
    | false => exact Loop_end (by rw [hb, hn]; rfl)
theorem isBl_rune {u : TUnit} (hT : Told U) (h : (u :: us) <:+ U) : ((u.Rune != (32 : Int)) && ((u.Rune != (9 : Int)) && ((u.Rune != (10 : Int)) && (u.Rune != (13 : Int))))) = !isBl (su u) := by
  have a := rune_is hT h (n := 32) (by decide) (by decide)
  have b := rune_is hT h (n := 9) (by decide) (by decide)
  have c := rune_is hT h (n := 10) (by decide) (by decide)
  have d := rune_is hT h (n := 13) (by decide) (by decide)
  simp only [bne, a, b, c, d, isBl]
  cases (su u == 32) <;> cases (su u == 9) <;> cases (su u == 10) <;> cases (su u == 13) <;> rfl
theorem rblank_eq (hF : Fine U) (hT : Told U) : ∀ (n : Nat) {us : List TUnit}, us.length ≤ n → us <:+ U → Loop (scansionref07_blank.b1 U) (ix U us) = some (ix U (blk false us))
  | n, [], hn, h => by
    refine Loop_done ?_
    simp only [scansionref07_blank.b1]
    rw [ix_if h]; rfl
  | n, u :: us, hn, h => by
    have hb : scansionref07_blank.b1 U (ix U (u :: us)) = if (u.Rune == (35 : Int)) then Loop (scansionref07_blank.b2 U) (ix U (u :: us)) else scansionref07_blank.k3 (ix U (u :: us)) u := by
      simp only [scansionref07_blank.b1]
      rw [ix_if h]
      simp only [List.isEmpty_cons, Bool.false_eq_true, if_false]
      rw [ix_get h]; rfl
    obtain ⟨n, rfl⟩ : ∃ m, n = m + 1 := ⟨n - 1, by simp at hn; omega⟩
    rw [rune_is hT h (n := 35) (by decide) (by decide)] at hb
    by_cases h35 : su u = 35
    · have hnote : inNote (su u) = true := by rw [h35]; rfl
      have hbl : isBl (su u) = false := by rw [h35]; rfl
      have hl := rb2_eq hF hT h
      rw [List.dropWhile_cons, hnote] at hl
      simp only [if_true] at hl
      have hm := suf_drop (q := fun u => inNote (su u)) (suf_tail h)
      have hlm := (List.dropWhile_suffix (l := us) (fun u => inNote (su u))).length_le
      have hspec : blk false (u :: us) = blk false (us.dropWhile fun u => inNote (su u)) := by
        simp only [blk, hbl, if_pos h35, Bool.false_eq_true, if_false]
        exact blk_note hF (suf_tail h)
      rw [hspec]
      have ih := rblank_eq hF hT n (us := us.dropWhile fun u => inNote (su u)) (by simp at hn; omega) hm
      rcases drop_head (q := fun u => inNote (su u)) us with he | ⟨v, m, he, hv⟩
      · rw [he] at hl ih ⊢
        rw [← ih]
        refine Loop_next ?_
        rw [hb, if_pos (by simpa using h35), hl]
        unfold scansionref07_blank.k4
        rw [ix_if (us := ([] : List TUnit)) (by rw [← he]; exact hm)]; rfl
      · rw [he] at hl ih hm ⊢
        cases hbad : v.Bad with
        | true =>
          have hsv : su v = -2 := by unfold su; rw [hbad]; rfl
          rw [blk_stop (by rw [hsv]; rfl) (by omega)]
          refine Loop_done ?_
          rw [hb, if_pos (by simpa using h35), hl]
          unfold scansionref07_blank.k4
          rw [ix_if hm]
          simp only [List.isEmpty_cons, Bool.false_eq_true, if_false]
          rw [ix_get hm]
          simp [hbad]
        | false =>
          rw [← ih]
          refine Loop_next ?_
          rw [hb, if_pos (by simpa using h35), hl]
          unfold scansionref07_blank.k4
          rw [ix_if hm]
          simp only [List.isEmpty_cons, Bool.false_eq_true, if_false]
          rw [ix_get hm]
          simp [hbad, scansionref07_blank.k2]
    · rw [if_neg (by simpa using h35)] at hb
      unfold scansionref07_blank.k3 at hb
      rw [isBl_rune hT h] at hb
      cases hbl : isBl (su u) with
      | true =>
        rw [hbl] at hb
        simp only [Bool.not_true, Bool.false_eq_true, if_false, scansionref07_blank.k2, ix_step hF h] at hb
        rw [Loop_next hb, rblank_eq hF hT n (by simp at hn; omega) (suf_tail h)]
        simp only [blk, hbl, if_true]
      | false =>
        rw [hbl] at hb
        rw [blk_stop hbl h35]
        exact Loop_done hb
theorem refBlank_eq (hF : Fine U) (hT : Told U) (h : us <:+ U) : scansionref07_blank U (ix U us) = some (ix U (blk false us)) := rblank_eq hF hT us.length (Nat.le_refl _) h
end
end Go.Val

/- part Q27 -/
/- Plain lemmas: the reference's numbers, letters, sets. -/
namespace Go.Val
set_option linter.unusedVariables false
set_option linter.unusedSimpArgs false
noncomputable section
variable {U us : List TUnit} {b : List UInt8}
def figR (n : Int) : Int := (hexv n).getD (-1)
theorem figure_eq (n : Int) : scansionref07_figure n = some (figR n) := by
  unfold scansionref07_figure figR hexv
  by_cases h1 : 48 ≤ n ∧ n ≤ 57
  · rw [if_pos (by simpa using h1), if_pos h1, w64 (by omega) (by omega)]; rfl
  · rw [if_neg (by simpa using h1), if_neg h1]
    by_cases h2 : 65 ≤ n ∧ n ≤ 70
    · rw [if_pos (by simpa using h2), if_pos h2, w64 (by omega) (by omega)]; rfl
    · rw [if_neg (by simpa using h2), if_neg h2]; rfl
theorem hexv_rune {u : TUnit} (hT : Told U) (h : (u :: us) <:+ U) : hexv u.Rune = hexv (su u) := by
  unfold su
  cases hb : u.Bad with
  | false => rfl
  | true => rw [hT.one h hb]; rfl
def prR (U : List TUnit) : Pr Int → Int × Int × Int
  | .ok v r => (v, ix U r, 0)
  | .err c r => (0, ix U r, c)
theorem rnum_eq (hF : Fine U) (hT : Told U) : ∀ (k : Nat) (fst : Bool) {us : List TUnit} (acc many : Int), us <:+ U → many + k = 6 → 0 ≤ many → (fst = true ↔ many = 0) → 0 ≤ acc → acc < 16 ^ (6 - k) →
    Loop (scansionref07_number.b1 U) (ix U us, acc, many) = some (prR U (figS k fst acc us))
  | k, fst, [], acc, many, h, hk, hm, hf, ha, hb => by
    refine Loop_done ?_
    simp only [scansionref07_number.b1]
    rw [ix_ge h]
    cases k <;> rfl
  | k, fst, u :: us, acc, many, h, hk, hm, hf, ha, hb => by
    have hb6 : acc < 16777216 := Int.lt_of_lt_of_le hb (by
      have : (16 : Int) ^ (6 - k) ≤ 16 ^ 6 := by exact_mod_cast Nat.pow_le_pow_right (by decide) (by omega)
      simpa using this)
    have hbody : scansionref07_number.b1 U (ix U (u :: us), acc, many) = if (decide (figR (su u) < 0) || many == 6) = true then (if (su u == 125 && decide (many > 0)) = true then some (.done (acc, ix U us, 0)) else some (.done (0, ix U (u :: us), 6)))
        else some (.next (ix U us, IntKind.i64.wrap (IntKind.i64.wrap (acc * 16) + figR (su u)), IntKind.i64.wrap (many + 1))) := by
      simp only [scansionref07_number.b1]
      rw [ix_ge h]
      simp only [List.isEmpty_cons, Bool.false_eq_true, if_false]
      rw [ix_get h, Option.bind_some, figure_eq, Option.bind_some]
      have e : figR u.Rune = figR (su u) := by unfold figR; rw [hexv_rune hT h]
      rw [e, rune_is hT h (n := 125) (by decide) (by decide), ix_step hF h]
    -- where nothing more is read
    have stop : (decide (figR (su u) < 0) || many == 6) = true → (many > 0 → figS k fst acc (u :: us) = closeS acc (u :: us)) → (¬ many > 0 → figS k fst acc (u :: us) = .err 6 (u :: us)) →
        Loop (scansionref07_number.b1 U) (ix U (u :: us), acc, many) = some (prR U (figS k fst acc (u :: us))) := fun hs h1 h2 => by
      refine Loop_done ?_
      rw [hbody, if_pos hs]
      by_cases hm0 : many > 0
      · rw [h1 hm0]
        simp only [closeS]
        by_cases h125 : su u = 125
        · rw [if_pos (by simp [h125, hm0]), if_pos h125]; rfl
        · rw [if_neg (by simp [h125]), if_neg h125]; rfl
      · rw [h2 hm0, if_neg (by simp [hm0])]; rfl
    cases k with
    | zero => exact stop (by have h6 : many = 6 := (by omega); simp [h6]) (fun _ => rfl) (fun h0 => by omega)
    | succ k =>
      cases hx : hexv (su u) with
      | none =>
        refine stop (by simp [figR, hx]) (fun h0 => ?_) (fun h0 => ?_)
        · have : fst = false := by cases hfs : fst with | false => rfl | true => have := hf.1 hfs; omega
          simp only [figS, hx, this, Bool.false_eq_true, if_false]
        · have : fst = true := hf.2 (by omega)
          simp only [figS, hx, this, if_true]
      | some d =>
        obtain ⟨d0, d1, _, _, _⟩ := hexv_lt hx
        have hd : figR (su u) = d := by simp [figR, hx]
        have hp : (16 : Int) ^ (6 - k) = 16 ^ (6 - (k + 1)) * 16 := by
          rw [show 6 - k = (6 - (k + 1)) + 1 by omega, Int.pow_succ]
        rw [hd, if_neg (by simp; omega), w64 (n := acc * 16) (by omega) (by omega), w64 (n := acc * 16 + d) (by omega) (by omega), w64 (n := many + 1) (by omega) (by omega)] at hbody
        rw [Loop_next hbody, rnum_eq hF hT k false (acc * 16 + d) (many + 1) (suf_tail h) (by omega) (by omega) ⟨fun e => (by cases e), fun e => (by omega)⟩ (by omega) (by rw [hp]; omega)]
        simp only [figS, hx]
theorem special_rune {u : TUnit} (hT : Told U) (h : (u :: us) <:+ U) : scansionref07_special u.Rune = some (spec (su u)) := by
  unfold scansionref07_special
  have a := rune_is hT h (n := 91) (by decide) (by decide)
  have b := rune_is hT h (n := 92) (by decide) (by decide)
  have c := rune_is hT h (n := 93) (by decide) (by decide)
  have d := rune_is hT h (n := 45) (by decide) (by decide)
  rw [a, b, c, d]
  unfold spec
  cases (su u == 91) <;> cases (su u == 92) <;> cases (su u == 93) <;> cases (su u == 45) <;> rfl
theorem ix_step2 {u v : TUnit} (hF : Fine U) (h : (u :: v :: us) <:+ U) : IntKind.i64.wrap (ix U (u :: v :: us) + 2) = ix U us := by
  have hl := suf_len h; have := hF.1
  simp only [ix, List.length_cons] at *
  rw [w64 (by omega) (by omega)]; omega
theorem ix_step3 {u v x : TUnit} (hF : Fine U) (h : (u :: v :: x :: us) <:+ U) : IntKind.i64.wrap (ix U (u :: v :: x :: us) + 3) = ix U us := by
  have hl := suf_len h; have := hF.1
  simp only [ix, List.length_cons] at *
  rw [w64 (by omega) (by omega)]; omega
theorem num_open {u : TUnit} (us : List TUnit) (h : su u = 123) : numS (u :: us) = figS 6 true 0 us := by simp only [numS, if_pos h]
theorem refLetter_eq (hF : Fine U) (hT : Told U) (h : us <:+ U) : scansionref07_letter U (ix U us) = some (prR U (letterS us)) := by
  unfold scansionref07_letter
  rw [ix_ge h]
  cases us with
  | nil => rfl
  | cons u us =>
    simp only [List.isEmpty_cons, Bool.false_eq_true, if_false]
    rw [ix_get h, Option.bind_some, special_rune hT h]
    have hv : (if u.Bad = true then some true else if decide (u.Rune < (32 : Int)) = true then some true else (some (spec (su u))).bind fun r => if r = true then some (u.Rune != (92 : Int)) else some false) = some (!plainL (su u)) := by
      cases hb : u.Bad with
      | true =>
        have : su u = -2 := by unfold su; rw [hb]; rfl
        rw [this]; rfl
      | false =>
        have e : u.Rune = su u := by unfold su; rw [hb]; rfl
        rw [e]
        simp only [Bool.false_eq_true, if_false]
        by_cases h32 : su u < 32
        · rw [if_pos (by simpa using h32)]; simp [plainL]; omega
        · rw [if_neg (by simpa using h32)]
          have h32' : decide (su u ≥ 32) = true := by simp; omega
          unfold plainL spec
          rw [h32']
          by_cases h91 : su u = 91
          · simp [h91]
          by_cases h93 : su u = 93
          · simp [h93]
          by_cases h45 : su u = 45
          · simp [h45]
          by_cases h92 : su u = 92
          · simp [h92]
          · simp [h91, h93, h45, h92]
    rw [hv, Option.bind_some]
    cases hp : plainL (su u) with
    | false =>
      rw [if_pos (by simp)]
      simp only [letterS, hp, Bool.false_eq_true, if_false]; rfl
    | true =>
      rw [if_neg (by simp)]
      have hbad : u.Bad = false := by
        cases hb : u.Bad with
        | false => rfl
        | true =>
          have : su u = -2 := by unfold su; rw [hb]; rfl
          rw [this] at hp; cases hp
      have e : u.Rune = su u := by unfold su; rw [hbad]; rfl
      rw [e, ix_step hF h]
      simp only [letterS, hp, if_true]
      by_cases h92 : su u = 92
      · rw [if_neg (by simp [h92]), if_pos h92, ix_ge (suf_tail h)]
        cases us with
        | nil => rfl
        | cons u2 us2 =>
          have h2 := suf_tail h
          simp only [List.isEmpty_cons, Bool.false_eq_true, if_false]
          rw [ix_get h2, Option.bind_some, special_rune hT h2, Option.bind_some, ix_step2 hF h]
          have hx : (u2.Rune != (120 : Int)) = (su u2 != 120) := by simp only [bne, rune_is hT h2 (n := 120) (by decide) (by decide)]
          rw [hx]
          by_cases h120 : su u2 = 120
          · have hsp : spec (su u2) = false := by rw [h120]; rfl
            rw [hsp, if_neg (by simp), if_neg (by simp [h120]), if_pos h120, ix_ge (suf_tail h2)]
            cases us2 with
            | nil => rfl
            | cons u3 us3 =>
              have h3 := suf_tail h2
              simp only [List.isEmpty_cons, Bool.false_eq_true, if_false]
              rw [ix_get h3, Option.bind_some, ix_step3 hF h]
              have hx3 : (u3.Rune != (123 : Int)) = (su u3 != 123) := by simp only [bne, rune_is hT h3 (n := 123) (by decide) (by decide)]
              rw [hx3]
              by_cases h123 : su u3 = 123
              · rw [if_neg (by simp [h123]), num_open us3 h123]
                unfold scansionref07_number
                rw [rnum_eq hF hT 6 true 0 0 (suf_tail h3) (by omega) (by omega) (by simp) (by omega) (by decide)]
                rfl
              · rw [if_pos (by simpa using h123)]
                simp only [numS, if_neg h123]; rfl
          · rw [if_neg h120]
            cases hsp : spec (su u2) with
            | true =>
              rw [if_pos rfl, if_pos rfl]
              have : u2.Rune = su u2 := by
                unfold su
                cases hb : u2.Bad with
                | false => rfl
                | true =>
                  have : su u2 = -2 := by unfold su; rw [hb]; rfl
                  rw [this] at hsp; cases hsp
              rw [this]; rfl
            | false =>
              rw [if_neg (by simp), if_pos (by simpa using h120), if_neg (by simp)]; rfl
      · rw [if_pos (by simpa using h92), if_neg h92]; rfl
theorem refMake_set {l : List TRange} (hok : ∀ x ∈ l, Ok x) (hl : l.length ≤ 1048576) : scansionref02_Make l = some (setOf l, 0) := by
  obtain ⟨out, h1, h2, h3⟩ := refMake_ok hok (by omega)
  obtain ⟨_, g2, g3⟩ := setOf_make hok hl
  rw [h1, Norm.unique h2 g2 fun t => (h3 t).trans (g3 t).symm]
def prL (U : List TUnit) : Pr (List TRange) → List TRange × Int × Int
  | .ok l r => (setOf l, ix U r, 0)
  | .err c r => ([], ix U r, c)
theorem letter_len (hF : Fine U) (h : us <:+ U) {v : Int} {r : List TUnit} (e : letterS us = .ok v r) : r <:+ us ∧ r.length < us.length ∧ 0 ≤ v := by
  have := letter_spec (w := 0) hF h
  rw [e] at this
  exact ⟨this.2.1, this.2.2.2.2, this.2.2.1⟩
theorem letter_err (hF : Fine U) (h : us <:+ U) {c : Int} {r : List TUnit} (e : letterS us = .err c r) : r <:+ us ∧ c ≠ 0 := by
  have := letter_spec (w := 0) hF h
  rw [e] at this
  exact this.2
theorem rset_eq (hF : Fine U) (hT : Told U) : ∀ (k : Nat) {us : List TUnit} (acc : List TRange), us <:+ U → us.length < k → (∀ x ∈ acc, Ok x) → acc.length + us.length ≤ 1048576 →
    Loop (scansionref07_set.b1 U) (ix U us, acc) = some (prL U (setS k acc us))
  | 0, us, acc, _, hk, _, _ => absurd hk (Nat.not_lt_zero _)
  | k + 1, [], acc, h, hk, ha, hl => by
    refine Loop_done ?_
    simp only [scansionref07_set.b1]
    rw [ix_ge h]; rfl
  | k + 1, u :: us, acc, h, hk, ha, hl => by
    have hbody : scansionref07_set.b1 U (ix U (u :: us), acc) = if (su u == 93) = true then some (.done (setOf acc, ix U us, 0)) else
        (some (prR U (letterS (u :: us)))).bind fun r1 => if (r1.2.2 != (0 : Int)) then some (Step.done (([] : List TRange), r1.2.1, r1.2.2)) else
          (if (decide (r1.2.1 < (U.length : Int))) then (idx U r1.2.1).bind fun x1 => some (x1.Rune == (45 : Int)) else some false).bind fun v =>
          if v then (scansionref07_letter U (IntKind.i64.wrap (r1.2.1 + (1 : Int)))).bind fun r2 => if (r2.2.2 != (0 : Int)) then some (Step.done (([] : List TRange), r2.2.1, r2.2.2)) else scansionref07_set.k1 (ix U (u :: us)) acc r1 r2.2.1 r2.1
          else scansionref07_set.k1 (ix U (u :: us)) acc r1 r1.2.1 r1.1 := by
      simp only [scansionref07_set.b1]
      rw [ix_ge h]
      simp only [List.isEmpty_cons, Bool.false_eq_true, if_false]
      rw [ix_get h, Option.bind_some, rune_is hT h (n := 93) (by decide) (by decide), refLetter_eq hF hT h, refMake_set ha (by omega), ix_step hF h]
      rfl
    simp only [setS]
    by_cases h93 : su u = 93
    · rw [if_pos (show sgn (u :: us) = 93 from h93)]
      exact Loop_done (by rw [hbody, if_pos (by simpa using h93)]; rfl)
    · rw [if_neg (show ¬ sgn (u :: us) = 93 from h93)]
      rw [if_neg (by simpa using h93), Option.bind_some] at hbody
      cases hls : letterS (u :: us) with
      | err c r =>
        rw [hls] at hbody
        obtain ⟨_, hc⟩ := letter_err hF h hls
        refine Loop_done ?_
        rw [hbody]
        exact (if_pos (show ((prR U (Pr.err c r)).2.2 != 0) = true from by simpa [prR] using hc)).trans rfl
      | ok lo r1 =>
        rw [hls] at hbody
        obtain ⟨hr, hrl, hlo0⟩ := letter_len hF h hls
        have hr1 := hr.trans h
        rw [if_neg (show ¬ ((prR U (Pr.ok lo r1)).2.2 != 0) = true from by simp [prR])] at hbody
        replace hbody : scansionref07_set.b1 U (ix U (u :: us), acc) = (if decide (ix U r1 < (U.length : Int)) = true then (idx U (ix U r1)).bind fun x1 => some (x1.Rune == (45 : Int)) else some false).bind fun v =>
          if v then (scansionref07_letter U (IntKind.i64.wrap (ix U r1 + (1 : Int)))).bind fun r2 => if (r2.2.2 != (0 : Int)) then some (Step.done (([] : List TRange), r2.2.1, r2.2.2)) else scansionref07_set.k1 (ix U (u :: us)) acc (lo, ix U r1, 0) r2.2.1 r2.1
          else scansionref07_set.k1 (ix U (u :: us)) acc (lo, ix U r1, 0) (ix U r1) lo := hbody
        have fin : ∀ (hi : Int) (r2 : List TUnit), r2 <:+ (u :: us) → r2.length < (u :: us).length → 0 ≤ hi → scansionref07_set.b1 U (ix U (u :: us), acc) = scansionref07_set.k1 (ix U (u :: us)) acc (lo, ix U r1, 0) (ix U r2) hi →
            Loop (scansionref07_set.b1 U) (ix U (u :: us), acc) = some (prL U (if lo > hi ∨ hi > 1114111 then Pr.err 1 (u :: us) else setS k (acc ++ [⟨lo, hi⟩]) r2)) := fun hi r2 hs2 hl2 hh0 he => by
          unfold scansionref07_set.k1 at he
          by_cases hbad : lo > hi ∨ hi > 1114111
          · rw [if_pos hbad]
            refine Loop_done ?_
            rw [he, if_pos (by simp; omega)]; rfl
          · rw [if_neg hbad]
            rw [if_neg (by simp; omega), room_ok (by simp at hl; omega)] at he
            have he2 : scansionref07_set.b1 U (ix U (u :: us), acc) = some (.next (ix U r2, acc ++ [⟨lo, hi⟩])) := he
            rw [Loop_next he2, rset_eq hF hT k (us := r2) (acc ++ [(⟨lo, hi⟩ : TRange)]) (hs2.trans h) (by omega) (fun x hx => by
              rcases List.mem_append.1 hx with hx | hx
              · exact ha x hx
              · rw [List.mem_singleton.1 hx]; unfold Ok; exact ⟨hlo0, by show lo ≤ hi; omega, by show hi ≤ 1114111; omega⟩) (by simp at hl hl2 ⊢; omega)]
        simp only
        rw [ix_if hr1] at hbody
        cases r1 with
        | nil =>
          rw [if_neg (by simp [sgn])]
          exact fin lo [] hr hrl hlo0 (by rw [hbody]; rfl)
        | cons u2 us2 =>
          simp only [List.isEmpty_cons, Bool.false_eq_true, if_false, ix_get hr1, Option.bind_some, rune_is hT hr1 (n := 45) (by decide) (by decide), ix_step hF hr1, refLetter_eq hF hT (suf_tail hr1)] at hbody
          by_cases h45 : su u2 = 45
          · rw [if_pos (show sgn (u2 :: us2) = 45 from h45)]
            rw [if_pos (by simpa using h45)] at hbody
            simp only [List.tail_cons]
            cases hls2 : letterS us2 with
            | err c r =>
              rw [hls2] at hbody
              obtain ⟨_, hc⟩ := letter_err hF (suf_tail hr1) hls2
              refine Loop_done ?_
              rw [hbody]
              exact (if_pos (show ((prR U (Pr.err c r)).2.2 != 0) = true from by simpa [prR] using hc)).trans rfl
            | ok hi r2 =>
              rw [hls2] at hbody
              obtain ⟨hr2, hrl2, hh0⟩ := letter_len hF (suf_tail hr1) hls2
              exact fin hi r2 (hr2.trans ((List.suffix_cons u2 us2).trans hr)) (by simp at hrl ⊢; omega) hh0 (by
                rw [hbody]
                exact (if_neg (show ¬ ((prR U (Pr.ok hi r2)).2.2 != 0) = true from by simp [prR])).trans rfl)
          · rw [if_neg (show ¬ sgn (u2 :: us2) = 45 from h45)]
            rw [if_neg (by simpa using h45)] at hbody
            exact fin lo (u2 :: us2) hr hrl hlo0 hbody
theorem refSet_eq (hF : Fine U) (hT : Told U) (h : us <:+ U) : scansionref07_set U (ix U us) = some (prL U (setS (us.length + 1) [] us)) :=
  rset_eq hF hT (us.length + 1) [] h (by omega) (by simp) (by have := suf_len h; have := hF.1; simp; omega)
end
end Go.Val

/- part Q28 -/
/- Plain lemmas: the reference's tokens are the program's. -/
namespace Go.Val
set_option linter.unusedVariables false
set_option linter.unusedSimpArgs false
noncomputable section
variable {us : List TUnit} {b : List UInt8}
theorem refAt_eq (hl : b.length ≤ 1048576) (h : us <:+ units b) : scansionref07_at (units b) (ix (units b) us) = some (atU b.length us) := by
  unfold scansionref07_at
  have hul := (from_all b).len
  rw [ix_if h]
  cases us with
  | cons u us => simp only [List.isEmpty_cons, Bool.false_eq_true, if_false]; rw [ix_get h]; rfl
  | nil =>
    simp only [List.isEmpty_nil, if_true]
    rcases List.eq_nil_or_concat (units b) with he | ⟨l, u, he⟩
    · rw [he]
      have := (from_all b).at_eq
      rw [he] at this
      have h0 : (b.length : Int) = 0 := this
      rw [if_pos (by simp)]
      exact congrArg some h0.symm
    · have h1 : [u] <:+ units b := ⟨l, by rw [he, List.concat_eq_append]⟩
      obtain ⟨a, hfr, hat⟩ := at_suf h1
      obtain ⟨hlt, _, w, hw, _, hfr2⟩ := hfr.head
      have hw2 := hfr2.at_eq
      have hua : u.At = a := hat
      have hlen : (units b).length = l.length + 1 := by rw [he]; simp
      rw [if_neg (by rw [hlen]; simp; omega)]
      have e : IntKind.i64.wrap (((units b).length : Int) - 1) = ix (units b) [u] := by
        rw [w64 (by omega) (by omega)]; unfold ix; simp; omega
      have hb : (b.length : Int) = ((a + w : Nat) : Int) := hw2
      rw [e, ix_get h1, Option.bind_some, hua, hw, w64 (by omega) (by omega)]
      show some _ = some (b.length : Int)
      rw [hb]; rfl
theorem refLower_eq (n : Int) : scansionref07_lower n = some (lowB n) := rfl
theorem refGoes_eq (n : Int) : scansionref07_goes n = some (goesB n) := by
  unfold scansionref07_goes scansionref07_lower goesB lowB
  cases h1 : decide (n ≥ 97) <;> cases h2 : decide (n ≤ 122) <;> cases h3 : decide (n ≥ 48) <;> cases h4 : decide (n ≤ 57) <;> simp [h3, h4]
def signs : Str := [61, 59, 47, 124, 42, 43, 63, 40, 41, 46, 126, 38, 45]
theorem rsign_b (n i : Int) : scansionref07_sign.b1 n i = if decide (i < (signs.length : Int)) = true then (idx signs i).bind fun x => if (IntKind.i64.wrap (x.toNat : Int) == n) = true then some (Step.done true) else some (Step.next (IntKind.i64.wrap (i + 1))) else some (Step.done false) := rfl
theorem refSign_eq (n : Int) : scansionref07_sign n = some (signB n) := by
  have key : ∀ (k : Nat), k ≤ signs.length → Loop (scansionref07_sign.b1 n) ((signs.length - k : Nat) : Int) = some ((signs.drop (signs.length - k)).any fun c => (c.toNat : Int) == n) := by
    intro k
    induction k with
    | zero =>
      intro _
      refine Loop_done ?_
      rw [rsign_b, if_neg (by simp)]
      simp
    | succ k ih =>
      intro hk
      have hlen : signs.length = 13 := rfl
      have hj : signs.length - (k + 1) < signs.length := by omega
      have hx : signs[signs.length - (k + 1)]? = some signs[signs.length - (k + 1)] := List.getElem?_eq_getElem hj
      rw [List.drop_eq_getElem_cons hj, List.any_cons]
      have hw : IntKind.i64.wrap ((signs[signs.length - (k + 1)].toNat : Nat) : Int) = ((signs[signs.length - (k + 1)].toNat : Nat) : Int) := w64 (by omega) (by have := signs[signs.length - (k + 1)].toNat_lt; omega)
      cases hc : ((signs[signs.length - (k + 1)].toNat : Int) == n) with
      | true =>
        refine Loop_done ?_
        rw [rsign_b, if_pos (by simp; omega), idx_nat, hx, Option.bind_some, hw, hc]
        rfl
      | false =>
        rw [Loop_next (s' := ((signs.length - k : Nat) : Int))]
        · rw [ih (by omega), show signs.length - (k + 1) + 1 = signs.length - k by omega]
          simp
        · rw [rsign_b, if_pos (by simp; omega), idx_nat, hx, Option.bind_some, hw, hc]
          simp only [Bool.false_eq_true, if_false]
          rw [w64s (by omega), show signs.length - (k + 1) + 1 = signs.length - k by omega]
  have := key signs.length (Nat.le_refl _)
  simp only [Nat.sub_self, List.drop_zero] at this
  exact this
theorem goesTo (hl : b.length ≤ 1048576) (hT : Told (units b)) {out : List TToken} {x : TUnit} : ∀ {us : List TUnit}, us <:+ units b →
    Loop (scansionref07_Tokens.b2 b (units b) out x) (ix (units b) us) = scansionref07_Tokens.k4 b (units b) out x (ix (units b) (us.dropWhile fun u => goesB (su u)))
  | [], h => by
    refine Loop_end ?_
    simp only [scansionref07_Tokens.b2]
    rw [ix_if h]; rfl
  | u :: us, h => by
    have hF := fine_units (b := b) hl
    have hr : goesB u.Rune = goesB (su u) := rune_p hT h (p := goesB) (by decide)
    have hb : scansionref07_Tokens.b2 b (units b) out x (ix (units b) (u :: us)) = if goesB (su u) then some (.next (ix (units b) us)) else (scansionref07_Tokens.k4 b (units b) out x (ix (units b) (u :: us))).map Step.done := by
      simp only [scansionref07_Tokens.b2]
      rw [ix_if h]
      simp only [List.isEmpty_cons, Bool.false_eq_true, if_false]
      rw [ix_get h, Option.bind_some, refGoes_eq, Option.bind_some, hr, ix_step hF h]; rfl
    rw [List.dropWhile_cons]
    cases hn : goesB (su u) with
    | true => rw [Loop_next (by rw [hb, hn]; rfl), goesTo hl hT (suf_tail h)]; rfl
    | false => exact Loop_end (by rw [hb, hn]; rfl)
/-- A sign's text is its byte. -/
theorem sign_text {u : TUnit} (h : (u :: us) <:+ units b) (hs : signB (su u) = true) : cutB b u.At (atU b.length us) = [u8 (IntKind.u8.wrap u.Rune)] := by
  obtain ⟨a, hfr, hat⟩ := at_suf h
  have hua : u.At = a := hat
  obtain ⟨hlt, hu, w, hw, _, hfr2⟩ := hfr.head
  have hbad : u.Bad = false := by
    cases hb : u.Bad with
    | false => rfl
    | true => have e : su u = -2 := (by unfold su; rw [hb]; rfl); rw [e] at hs; exact absurd hs (by decide)
  have hsu : su u = u.Rune := by unfold su; rw [hbad]; rfl
  rw [hsu] at hs
  have hlt128 : u.Rune < 128 := by
    have : ∃ c ∈ ([61, 59, 47, 124, 42, 43, 63, 40, 41, 46, 126, 38, 45] : List Int), (c == u.Rune) = true := List.any_eq_true.1 hs
    obtain ⟨c, hc, he⟩ := this
    have := eq_of_beq he
    simp only [List.mem_cons, List.not_mem_nil, or_false] at hc
    omega
  obtain ⟨h1, h2⟩ := hu.ascii hbad hlt128
  have hw1 : w = 1 := by rw [hw] at h1; omega
  rw [hua, hfr2.at_eq, h2, hw1]
  have e : u8 (IntKind.u8.wrap ((b[a].toNat : Nat) : Int)) = b[a] := by rw [u8w]; simp
  rw [e]
  unfold cutB
  simp only [Int.toNat_natCast]
  rw [List.take_add_one, List.getElem?_eq_getElem hlt, List.drop_append_of_le_length (by simp; omega), List.drop_of_length_le (by simp; omega)]
  rfl
theorem rtoks (hl : b.length ≤ 65536) : ∀ (k : Nat) {us : List TUnit} (out : List TToken), us <:+ units b → us.length < k → out.length + us.length ≤ 1048576 →
    Loop (scansionref07_Tokens.b1 b (units b)) (out, ix (units b) us) = some (match tkS b k us with
      | .ok ts _ => (out ++ ts ++ [⟨4, b.length, [], []⟩], 0, 0)
      | .err c r => ([], atU b.length r, c))
  | 0, us, out, _, hk, _ => absurd hk (Nat.not_lt_zero _)
  | k + 1, [], out, h, hk, ho => by
    simp only [tkS, List.isEmpty_nil, if_true, List.append_nil]
    refine Loop_done ?_
    simp only [scansionref07_Tokens.b1]
    rw [ix_if h]
    simp only [List.isEmpty_nil, if_true]
    unfold scansionref07_Tokens.k1
    rw [room_ok (by simp at ho; omega)]; rfl
  | k + 1, u :: us, out, h, hk, ho => by
    have hF := fine_units (b := b) (by omega)
    have hT := told_units b
    have hs := suf_tail h
    obtain ⟨a, hfr, hat⟩ := at_suf h
    have hua : u.At = a := hat
    simp only [tkS, List.isEmpty_cons, Bool.false_eq_true, if_false]
    have hbody : scansionref07_Tokens.b1 b (units b) (out, ix (units b) (u :: us)) = if u.Bad then some (Step.done (([] : List TToken), u.At, (6 : Int))) else if lowB (su u) then scansionref07_Tokens.k4 b (units b) out u (ix (units b) (us.dropWhile fun u => goesB (su u))) else
        if su u == 91 then (if ((prL (units b) (setS (us.length + 1) [] us)).2.2 != (0 : Int)) then (scansionref07_at (units b) (prL (units b) (setS (us.length + 1) [] us)).2.1).bind fun r7 => some (Step.done (([] : List TToken), r7, (prL (units b) (setS (us.length + 1) [] us)).2.2))
          else scansionref07_Tokens.k3 (units b) out u (prL (units b) (setS (us.length + 1) [] us)).2.1 3 [] (prL (units b) (setS (us.length + 1) [] us)).1) else
        if signB (su u) then scansionref07_Tokens.k3 (units b) out u (ix (units b) us) 2 [u8 (IntKind.u8.wrap u.Rune)] [] else some (Step.done (([] : List TToken), u.At, (6 : Int))) := by
      simp only [scansionref07_Tokens.b1]
      rw [ix_if h]
      simp only [List.isEmpty_cons, Bool.false_eq_true, if_false]
      rw [ix_get h, Option.bind_some]
      cases hb : u.Bad with
      | true => rfl
      | false =>
        have hsu : u.Rune = su u := by unfold su; rw [hb]; rfl
        simp only [Bool.false_eq_true, if_false]
        rw [ix_step hF h, refSet_eq hF hT hs, goesTo (by omega) hT hs, hsu, refLower_eq, refSign_eq]
        rfl
    -- one token more
    have more : ∀ (K : Int) (t : Str) (S : List TRange) (r : List TUnit), r <:+ us → scansionref07_Tokens.k3 (units b) out u (ix (units b) r) K t S = some (Step.next (out ++ [⟨K, u.At, t, S⟩], ix (units b) (blk false r))) := fun K t S r hr => by
      unfold scansionref07_Tokens.k3
      rw [room_ok (by simp at ho; omega), Option.bind_some, refBlank_eq hF hT (hr.trans hs)]; rfl
    have fin : ∀ (t : TToken) (r : List TUnit), r <:+ us → scansionref07_Tokens.b1 b (units b) (out, ix (units b) (u :: us)) = some (Step.next (out ++ [t], ix (units b) (blk false r))) →
        Loop (scansionref07_Tokens.b1 b (units b)) (out, ix (units b) (u :: us)) = some (match (match tkS b k (blk false r) with | .err c r => Pr.err c r | .ok ts r => .ok (t :: ts) r) with
          | .ok ts _ => (out ++ ts ++ [⟨4, b.length, [], []⟩], 0, 0)
          | .err c r => ([], atU b.length r, c)) := fun t r hr hbd => by
      have hlr := hr.length_le
      have hlb := blk_len r
      rw [Loop_next hbd, rtoks hl k (us := blk false r) (out ++ [t]) ((blk_suf false r).trans (hr.trans hs)) (by simp at hk; omega) (by simp at ho ⊢; omega)]
      cases tkS b k (blk false r) with
      | err c r => rfl
      | ok ts r => simp
    cases hb : u.Bad with
    | true =>
      have hsu : su u = -2 := by unfold su; rw [hb]; rfl
      rw [hb] at hbody
      have : tokS b (u :: us) = .err 6 (u :: us) := by
        simp only [tokS]; rw [if_neg (by rw [hsu]; decide), if_neg (by rw [hsu]; decide), if_neg (by rw [hsu]; decide)]
      rw [this]
      exact Loop_done hbody
    | false =>
      rw [hb] at hbody
      simp only [Bool.false_eq_true, if_false] at hbody
      by_cases h91 : su u = 91
      · rw [h91] at hbody
        have hnl : lowB 91 = false := by decide
        rw [hnl] at hbody
        simp only [Bool.false_eq_true, if_false] at hbody
        replace hbody := hbody.trans (if_pos rfl)
        simp only [tokS, if_pos h91]
        cases hss : setS (us.length + 1) [] us with
        | err c r =>
          have hset := set_spec (w := b.length) hF (us.length + 1) (us := us) [] hs (by omega) (by simp) (by have := suf_len hs; have := hF.1; simp; omega)
          rw [hss] at hset hbody
          obtain ⟨g1, g2, g3⟩ := hset
          refine Loop_done ?_
          rw [hbody]
          refine (if_pos (show ((prL (units b) (Pr.err c r)).2.2 != 0) = true from by simpa [prL] using g3)).trans ?_
          have := refAt_eq (b := b) (by omega) (g2.trans hs)
          simp only [prL]
          rw [this]; rfl
        | ok l r =>
          have hset := set_spec (w := b.length) hF (us.length + 1) (us := us) [] hs (by omega) (by simp) (by have := suf_len hs; have := hF.1; simp; omega)
          rw [hss] at hset hbody
          obtain ⟨g1, g2, g3, g4, g5⟩ := hset
          refine fin ⟨3, u.At, [], setOf l⟩ r g2 ?_
          rw [hbody]
          exact (if_neg (show ¬ ((prL (units b) (Pr.ok l r)).2.2 != 0) = true from by simp [prL])).trans (more 3 [] (setOf l) r g2)
      · simp only [tokS, if_neg h91]
        cases hlow : lowB (su u) with
        | true =>
          rw [hlow] at hbody
          simp only [if_true] at hbody ⊢
          have hr : (us.dropWhile fun u => goesB (su u)) <:+ us := List.dropWhile_suffix _
          refine fin _ _ hr ?_
          rw [hbody]
          unfold scansionref07_Tokens.k4
          rw [refAt_eq (by omega) (hr.trans hs), Option.bind_some]
          obtain ⟨a', hfr', hat'⟩ := at_suf (hr.trans hs)
          have hle := hfr.mono (hr.trans (List.suffix_cons u us)) hfr'
          rw [hat', hua, cut_ok hle hfr'.le, Option.bind_some, more _ _ _ _ hr, hua]
          rfl
        | false =>
          rw [hlow] at hbody
          simp only [Bool.false_eq_true, if_false] at hbody ⊢
          replace hbody := hbody.trans (if_neg (by simpa using h91))
          cases hsg : signB (su u) with
          | true =>
            rw [hsg] at hbody
            simp only [if_true] at hbody ⊢
            refine fin _ us List.suffix_rfl ?_
            rw [hbody, more _ _ _ us List.suffix_rfl, sign_text h hsg]
          | false =>
            rw [hsg] at hbody
            simp only [Bool.false_eq_true, if_false] at hbody ⊢
            exact Loop_done hbody
/-- The reference's tokens. -/
theorem refTokens_eq (hl : b.length ≤ 65536) : scansionref07_Tokens b = some (Tk b) := by
  have hF := fine_units (b := b) (by omega)
  have hT := told_units b
  unfold scansionref07_Tokens
  rw [if_neg (by simp; omega), refDecode_eq (by omega), Option.bind_some]
  have h0 : (0 : Int) = ix (units b) (units b) := by simp [ix]
  rw [h0, refBlank_eq hF hT List.suffix_rfl, Option.bind_some]
  have hlb := blk_len (units b)
  have hul := (from_all b).len
  rw [rtoks hl (b.length + 1) (us := blk false (units b)) [] (blk_suf false _) (by omega) (by simp; omega)]
  unfold Tk
  cases tkS b (b.length + 1) (blk false (units b)) <;> simp
theorem refTokens_full (hl : 65536 < b.length) : scansionref07_Tokens b = some ([], 0, 3) := by
  unfold scansionref07_Tokens
  rw [if_pos (by simp; omega)]
end
end Go.Val

/- part Q29 -/
/- Plain lemmas: the tokens' law. -/
namespace Go.Val
set_option linter.unusedVariables false
set_option linter.unusedSimpArgs false
noncomputable section
variable {us : List TUnit} {b : List UInt8}
/-- What a token is. -/
structure TokOk (b : List UInt8) (us : List TUnit) (t : TToken) (r : List TUnit) : Prop where
  suf : r <:+ us
  less : r.length < us.length
  norm : Norm t.Set
  at_ : t.At = atU b.length us
  kind : t.Kind = 1 ∧ lowB (sgn us) = true ∧ t.Text = cutB b t.At (atU b.length r) ∧ t.Set = [] ∧ r = us.tail.dropWhile (fun u => goesB (su u)) ∨ t.Kind = 2 ∧ signB (sgn us) = true ∧ t.Text = cutB b t.At (atU b.length r) ∧ t.Set = [] ∧ r = us.tail ∨ t.Kind = 3 ∧ sgn us = 91 ∧ t.Text = []
theorem norm_nil : Norm [] := ⟨by simp, List.Pairwise.nil⟩
theorem tok_ok (hl : b.length ≤ 1048576) (h : us <:+ units b) {t : TToken} {r : List TUnit} (e : tokS b us = .ok t r) : TokOk b us t r := by
  have hF := fine_units (b := b) hl
  cases us with
  | nil => simp [tokS] at e
  | cons u us =>
    have hs := suf_tail h
    simp only [tokS] at e
    by_cases h91 : su u = 91
    · rw [if_pos h91] at e
      have hset := set_spec (w := b.length) hF (us.length + 1) (us := us) [] hs (by omega) (by simp) (by have := suf_len hs; have := hF.1; simp; omega)
      cases hss : setS (us.length + 1) [] us with
      | err c r' => rw [hss] at e; cases e
      | ok l r' =>
        rw [hss] at e hset
        obtain ⟨g1, g2, g3, g4, g5⟩ := hset
        simp only [Pr.ok.injEq] at e
        obtain ⟨rfl, rfl⟩ := e
        exact ⟨g2.trans (List.suffix_cons u us), by simp; omega, (setOf_make g4 g5).2.1, rfl, .inr (.inr ⟨rfl, h91, rfl⟩)⟩
    · rw [if_neg h91] at e
      cases hlow : lowB (su u) with
      | true =>
        rw [hlow] at e
        simp only [if_true, Pr.ok.injEq] at e
        obtain ⟨rfl, rfl⟩ := e
        have hd := List.dropWhile_suffix (l := us) (fun u => goesB (su u))
        exact ⟨hd.trans (List.suffix_cons u us), by have := hd.length_le; simp; omega, norm_nil, rfl, .inl ⟨rfl, hlow, rfl, rfl, rfl⟩⟩
      | false =>
        rw [hlow] at e
        simp only [Bool.false_eq_true, if_false] at e
        cases hsg : signB (su u) with
        | true =>
          rw [hsg] at e
          simp only [if_true, Pr.ok.injEq] at e
          obtain ⟨rfl, rfl⟩ := e
          exact ⟨List.suffix_cons u us, by simp, norm_nil, rfl, .inr (.inl ⟨rfl, hsg, rfl, rfl, rfl⟩)⟩
        | false => rw [hsg] at e; cases e
/-- What is so of each token that is read. -/
theorem tks_all (hl : b.length ≤ 1048576) {P : TToken → Prop} (hP : ∀ {us t r}, us <:+ units b → TokOk b us t r → P t) : ∀ (k : Nat) {us : List TUnit}, us <:+ units b → ∀ {ts r}, tkS b k us = .ok ts r → (∀ t ∈ ts, P t) ∧ ts.length ≤ us.length
  | 0, us, _, _, _, e => by cases e
  | k + 1, us, h, ts, r, e => by
    simp only [tkS] at e
    cases us with
    | nil => simp at e; obtain ⟨rfl, rfl⟩ := e; simp
    | cons u us =>
      simp only [List.isEmpty_cons, Bool.false_eq_true, if_false] at e
      cases ht : tokS b (u :: us) with
      | err c r' => rw [ht] at e; cases e
      | ok t r' =>
        rw [ht] at e
        have hk := tok_ok hl h ht
        have hr := (blk_suf false r').trans (hk.suf.trans h)
        simp only at e
        cases ht2 : tkS b k (blk false r') with
        | err c r2 => rw [ht2] at e; cases e
        | ok ts2 r2 =>
          rw [ht2] at e
          simp only [Pr.ok.injEq] at e
          obtain ⟨rfl, rfl⟩ := e
          obtain ⟨h1, h2⟩ := tks_all hl hP k hr ht2
          have hlb := blk_len r'
          have := hk.less
          exact ⟨fun x hx => by rcases List.mem_cons.1 hx with rfl | hx; exact hP h hk; exact h1 x hx, by simp at this ⊢; omega⟩
theorem Tk_norm (hl : b.length ≤ 1048576) : (∀ t ∈ (Tk b).1, Norm t.Set) ∧ (Tk b).1.length ≤ b.length + 1 := by
  unfold Tk
  have hul := (from_all b).len
  have hlb := blk_len (units b)
  cases e : tkS b (b.length + 1) (blk false (units b)) with
  | err c r => simp
  | ok ts r =>
    obtain ⟨h1, h2⟩ := tks_all hl (P := fun t => Norm t.Set) (fun _ h => h.norm) _ (blk_suf false _) e
    refine ⟨fun t ht => ?_, by simp; omega⟩
    rcases List.mem_append.1 ht with ht | ht
    · exact h1 t ht
    · rw [List.mem_singleton.1 ht]; exact norm_nil
theorem Same7_eq {a b : List TToken} (hl : a.length < 9223372036854775807) (hs : ∀ t ∈ a, t.Set.length < 9223372036854775807) : scansionref07_Same a b = some (decide (a = b)) := by
  unfold scansionref07_Same
  by_cases hlen : a.length = b.length
  · rw [if_neg (by simp [hlen])]
    have step : ∀ (j : Nat) (hj : j < a.length), scansionref07_Same.b1 a b (j : Int) = if a[j] = b[j]'(by omega) then some (.next ((j + 1 : Nat) : Int)) else some (.done false) := fun j hj => by
      have ha : a[j]? = some a[j] := List.getElem?_eq_getElem hj
      have hb : b[j]? = some (b[j]'(by omega)) := List.getElem?_eq_getElem (by omega)
      have hset := hs _ (List.getElem_mem hj)
      rw [scansionref07_Same.b1, if_pos (by simpa using hj), idx_nat, ha, Option.bind_some, idx_nat, hb, Option.bind_some, Same_eq hset, Option.bind_some, w64s (by omega)]
      generalize a[j] = x at *
      generalize b[j]'(by omega) = y at *
      cases x; cases y
      simp only [TToken.mk.injEq]
      split
      · rename_i hn
        rw [if_neg]
        intro ⟨h1, h2, h3, h4⟩
        simp [h1, h2, h3, h4] at hn
      · rename_i hn
        rw [if_pos]
        simpa using hn
    have := Loop_all0 (b := scansionref07_Same.b1 a b) (fun j => a[j]? = b[j]?) a.length (r := false) (R := true) (fun j hj hp => ?_) (fun j hj hp => ?_) ?_
    · by_cases h : a = b
      · rw [this.1 (fun j _ => by rw [h]), decide_eq_true h]
      · rw [this.2 (fun hall => h (List.ext_getElem? fun j => ?_)), decide_eq_false h]
        by_cases hj : j < a.length
        · exact hall j hj
        · rw [List.getElem?_eq_none (by omega), List.getElem?_eq_none (by omega)]
    · have ha : a[j]? = some a[j] := List.getElem?_eq_getElem hj
      have hb : b[j]? = some (b[j]'(by omega)) := List.getElem?_eq_getElem (by omega)
      rw [ha, hb] at hp
      rw [step j hj, if_pos (Option.some.inj hp)]
    · have ha : a[j]? = some a[j] := List.getElem?_eq_getElem hj
      have hb : b[j]? = some (b[j]'(by omega)) := List.getElem?_eq_getElem (by omega)
      rw [ha, hb] at hp
      rw [step j hj, if_neg (fun h => hp (by rw [h]))]
    · rw [scansionref07_Same.b1, if_neg (by simp)]; rfl
  · rw [if_pos (by simp; omega)]
    rw [decide_eq_false (fun h => hlen (by rw [h]))]
theorem Tk_same (hl : b.length ≤ 1048576) (l : List TToken) : scansionref07_Same (Tk b).1 l = some (decide ((Tk b).1 = l)) := by
  obtain ⟨h1, h2⟩ := Tk_norm hl
  exact Same7_eq (by omega) (fun t ht => by have := (h1 t ht).len; omega)
def bs7 : List UInt8 := [115, 101, 116, 32, 97, 32, 61, 32, 91, 97, 45, 99, 93, 59]
theorem Tk_bs7 : Tk bs7 = ([⟨1, 0, [115, 101, 116], []⟩, ⟨1, 4, [97], []⟩, ⟨2, 6, [61], []⟩, ⟨3, 8, [], setOf [⟨97, 99⟩]⟩, ⟨2, 13, [59], []⟩, ⟨4, 14, [], []⟩], 0, 0) := rfl
theorem awake7 : scansionlaw07_awake = some true := by
  have h : lex_Tokens bs7 = some (Tk bs7) := Tokens_eq (by decide)
  have hn : Norm [⟨97, 99⟩] := ⟨by intro x hx; rw [List.mem_singleton.1 hx]; unfold Ok; decide, by simp⟩
  rw [Tk_bs7, setOf_norm hn (by decide)] at h
  unfold scansionlaw07_awake
  have e : lex_Tokens ([(u8 (115 : Int)), (u8 (101 : Int)), (u8 (116 : Int)), (u8 (32 : Int)), (u8 (97 : Int)), (u8 (32 : Int)), (u8 (61 : Int)), (u8 (32 : Int)), (u8 (91 : Int)), (u8 (97 : Int)), (u8 (45 : Int)), (u8 (99 : Int)), (u8 (93 : Int)), (u8 (59 : Int))]) = lex_Tokens bs7 := rfl
  rw [e, h]
  rfl
theorem LexTokens_of (b : List UInt8) : scansionlaw07_LexTokens b = some true := by
  unfold scansionlaw07_LexTokens
  rw [awake7, Option.bind_some]
  by_cases h1 : b.length ≤ 65536
  · by_cases h2 : b.length > 2000
    · rw [if_pos (by simp; omega)]
    · rw [if_neg (by simp; omega), Tokens_eq h1, refTokens_eq h1]
      simp only [Option.bind_some]
      rw [Tk_same (by omega)]
      simp
  · rw [if_neg (by simp; omega), Tokens_full (by omega), refTokens_full (by omega)]
    simp only [Option.bind_some]
    rw [Same7_eq (by simp) (by simp)]
    simp
end
end Go.Val
