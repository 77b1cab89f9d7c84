/- A value semantics of the model's programs, sound against it, and functions read off the given program with the proofs that it runs so; no condition. -/
import Derived.Test.YtgekjbingaghaaaOwnE
set_option linter.all false
set_option linter.unnecessarySimpa false
set_option linter.unusedVariables false
set_option linter.unusedSimpArgs false
/- part R12 -/
/- Plain lemmas: the edges of sets, by the program and by the reference. -/
namespace Go.Val
set_option linter.unusedVariables false
set_option linter.unusedSimpArgs false
theorem arr_at {zs : List Int} {m : Nat} (h : m < zs.length) : zs.toArray[m]! = zs[m] := by
  rw [getElem!_pos zs.toArray m (by simpa using h)]; simp
theorem compact_part {zs : List Int} (hs : zs.Pairwise (· ≤ ·)) : ∀ m, m ≤ zs.length → (Go.Lib.compactUpTo zs.toArray m).Pairwise (· < ·) ∧ (∀ x, x ∈ Go.Lib.compactUpTo zs.toArray m ↔ x ∈ zs.take m) ∧ (Go.Lib.compactUpTo zs.toArray m).length ≤ m
  | 0, _ => by simp [Go.Lib.compactUpTo]
  | m + 1, h => by
    obtain ⟨ih1, ih2, ih3⟩ := compact_part hs m (by omega)
    have hm : m < zs.length := by omega
    have hle : ∀ x ∈ zs.take m, x ≤ zs[m] := by
      intro x hx
      obtain ⟨j, hj, rfl⟩ := List.getElem_of_mem hx
      rw [List.getElem_take]
      have : j < m := by simp at hj; omega
      exact (List.pairwise_iff_getElem.1 hs) j m (by omega) hm this
    rw [Go.Lib.compactUpTo_succ, arr_at hm, take_snocP hm]
    by_cases hk : Go.Lib.keeps zs.toArray m = true
    · rw [if_pos hk]
      refine ⟨?_, fun x => by rw [List.mem_append, List.mem_append, ih2], by simp; omega⟩
      rw [List.pairwise_append]
      refine ⟨ih1, List.pairwise_singleton _ _, fun x hx y hy => ?_⟩
      simp at hy; subst hy
      have h1 := hle x ((ih2 x).1 hx)
      rcases Int.lt_or_eq_of_le h1 with h2 | h2
      · exact h2
      · exfalso
        simp only [Go.Lib.keeps, decide_eq_true_eq] at hk
        rcases hk with hk | hk
        · subst hk; simp at ih2; exact absurd hx (ih2 x)
        · have h0 : 0 < m := by
            rcases Nat.eq_zero_or_pos m with h0 | h0
            · subst h0; exact absurd ((ih2 x).1 hx) (by simp)
            · exact h0
          rw [arr_at hm, arr_at (by omega)] at hk
          have hx2 := (ih2 x).1 hx
          obtain ⟨j, hj, rfl⟩ := List.getElem_of_mem hx2
          rw [List.getElem_take] at h2
          have hj2 : j < m := by simp at hj; omega
          have hj3 : zs[j]'(by omega) ≤ zs[m - 1]'(by omega) := by
            rcases Nat.lt_or_ge j (m - 1) with q | q
            · exact (List.pairwise_iff_getElem.1 hs) j (m - 1) (by omega) (by omega) q
            · have : j = m - 1 := by omega
              subst this; exact Int.le_refl _
          have hj4 : zs[m - 1]'(by omega) ≤ zs[m] := (List.pairwise_iff_getElem.1 hs) (m - 1) m (by omega) hm (by omega)
          exact hk (by omega)
    · rw [if_neg hk, List.append_nil]
      refine ⟨ih1, fun x => ?_, by omega⟩
      rw [ih2, List.mem_append]
      refine ⟨.inl, fun h => h.elim id fun h => ?_⟩
      simp at h; subst h
      simp only [Go.Lib.keeps, decide_eq_true_eq, not_or, ne_eq, Classical.not_not] at hk
      rw [arr_at hm, arr_at (by omega)] at hk
      rw [hk.2]
      exact List.mem_take_iff_getElem.2 ⟨m - 1, by omega, rfl⟩
theorem compact_spec {zs : List Int} (hs : zs.Pairwise (· ≤ ·)) : (Go.Lib.compact zs).Pairwise (· < ·) ∧ (∀ x, x ∈ Go.Lib.compact zs ↔ x ∈ zs) ∧ (Go.Lib.compact zs).length ≤ zs.length := by
  have := compact_part hs zs.length (Nat.le_refl _)
  rw [List.take_length] at this; exact this
theorem rise_unique : ∀ {l m : List Int}, l.Pairwise (· < ·) → m.Pairwise (· < ·) → (∀ x, x ∈ l ↔ x ∈ m) → l = m
  | [], [], _, _, _ => rfl
  | [], b :: m, _, _, h => absurd ((h b).2 (by simp)) (by simp)
  | a :: l, [], _, _, h => absurd ((h a).1 (by simp)) (by simp)
  | a :: l, b :: m, h1, h2, h => by
    rw [List.pairwise_cons] at h1 h2
    have hab : a = b := by
      have ha := (h a).1 (by simp)
      have hb := (h b).2 (by simp)
      rcases List.mem_cons.1 ha with e | ha
      · exact e
      · rcases List.mem_cons.1 hb with e | hb
        · exact e.symm
        · have := h1.1 b hb; have := h2.1 a ha; omega
    subst hab
    rw [rise_unique h1.2 h2.2 fun x => ?_]
    have := h x
    simp only [List.mem_cons] at this
    constructor
    · intro hx
      have := h1.1 x hx
      exact (this |> fun _ => (‹x = a ∨ x ∈ l ↔ x = a ∨ x ∈ m›.1 (.inr hx))).elim (fun e => by omega) id
    · intro hx
      have := h2.1 x hx
      exact (this |> fun _ => (‹x = a ∨ x ∈ l ↔ x = a ∨ x ∈ m›.2 (.inr hx))).elim (fun e => by omega) id
theorem flat_snoc {S : List (List TRange)} {i : Nat} (h : i < S.length) : (S.take (i + 1)).flatten = (S.take i).flatten ++ S[i] := by
  rw [take_snocP h, List.flatten_append]; simp
theorem flat_len {S : List (List TRange)} (i : Nat) : (S.take i).flatten.length ≤ S.flatten.length := by
  have : S.flatten = (S.take i).flatten ++ (S.drop i).flatten := by rw [← List.flatten_append, List.take_append_drop]
  rw [this, List.length_append]; omega
theorem ed_len {S : List (List TRange)} {i : Nat} (h : i < S.length) : (S.take i).flatten.length + S[i].length ≤ S.flatten.length := by
  have := flat_len (S := S) (i + 1)
  rw [flat_snoc h, List.length_append] at this; exact this
theorem mem_flat {S : List (List TRange)} {i : Nat} (h : i < S.length) {x : TRange} (hx : x ∈ S[i]) : x ∈ S.flatten := List.mem_flatten.2 ⟨S[i], List.getElem_mem h, hx⟩
/-- The program's edges, before they are sorted. -/
theorem ed_inner {S : List (List TRange)} (hok : ∀ x ∈ S.flatten, Ok x) (hl : S.flatten.length ≤ 1000000) {i : Nat} (hi : i < S.length) : ∀ (d k : Nat), k + d = S[i].length → ∀ out : List Int, (∀ e, e ∈ out ↔ Edge ((S.take i).flatten ++ S[i].take k) e) → out.length ≤ 2 * ((S.take i).flatten.length + k) + 1 →
    ∃ out', Loop (alphabet_edges.b2 (i : Int) S[i]) (out, (k : Int)) = alphabet_edges.k2 (i : Int) out' ∧ (∀ e, e ∈ out' ↔ Edge ((S.take (i + 1)).flatten) e) ∧ out'.length ≤ 2 * (S.take (i + 1)).flatten.length + 1
  | 0, k, h, out, hm, ho => by
    obtain rfl : k = S[i].length := by omega
    refine ⟨out, Loop_end ?_, fun e => by rw [hm, flat_snoc hi, List.take_length], by rw [flat_snoc hi, List.length_append]; exact ho⟩
    simp only [alphabet_edges.b2]
    rw [if_neg (by simp)]
  | d + 1, k, h, out, hm, ho => by
    have hk : k < S[i].length := by omega
    have hel := ed_len hi
    obtain ⟨a, b, c⟩ := hok _ (mem_flat hi (List.getElem_mem hk))
    have htk : S[i].take (k + 1) = S[i].take k ++ [S[i][k]] := take_snocP hk
    by_cases hh : S[i][k].High < 1114111
    · obtain ⟨out', h1, h2, h3⟩ := ed_inner hok hl hi d (k + 1) (by omega) (out ++ [S[i][k].Low] ++ [S[i][k].High + 1]) (fun e => by
        rw [htk, ← List.append_assoc, Edge_snoc, ← hm]
        simp only [List.mem_append, List.mem_singleton]
        constructor
        · rintro ((h | h) | h)
          · exact .inl (.inl h)
          · exact .inl (.inr h)
          · exact .inr ⟨hh, h⟩
        · rintro ((h | h) | h)
          · exact .inl (.inl h)
          · exact .inl (.inr h)
          · exact .inr h.2) (by simp only [List.length_append, List.length_singleton]; omega)
      refine ⟨out', ?_, h2, h3⟩
      rw [← h1]
      refine Loop_next ?_
      simp only [alphabet_edges.b2]
      rw [if_pos (by simpa using hk), idx_nat, List.getElem?_eq_getElem hk, Option.bind_some, room_ok (by omega), Option.bind_some, if_pos (decide_eq_true hh), room_ok (by omega), Option.bind_some, w64 (n := S[i][k].High + 1) (by omega) (by omega)]
      unfold alphabet_edges.k3
      rw [w64s (by omega)]
    · obtain ⟨out', h1, h2, h3⟩ := ed_inner hok hl hi d (k + 1) (by omega) (out ++ [S[i][k].Low]) (fun e => by
        rw [htk, ← List.append_assoc, Edge_snoc, ← hm]
        simp only [List.mem_append, List.mem_singleton]
        constructor
        · rintro (h | h)
          · exact .inl (.inl h)
          · exact .inl (.inr h)
        · rintro ((h | h) | h)
          · exact .inl h
          · exact .inr h
          · exact absurd h.1 hh) (by simp only [List.length_append, List.length_singleton]; omega)
      refine ⟨out', ?_, h2, h3⟩
      rw [← h1]
      refine Loop_next ?_
      simp only [alphabet_edges.b2]
      rw [if_pos (by simpa using hk), idx_nat, List.getElem?_eq_getElem hk, Option.bind_some, room_ok (by omega), Option.bind_some, if_neg (by simpa using hh)]
      unfold alphabet_edges.k3
      rw [w64s (by omega)]
theorem ed_outer {S : List (List TRange)} (hok : ∀ x ∈ S.flatten, Ok x) (hl : S.flatten.length ≤ 1000000) (hs : S.length ≤ 1000000) : ∀ (d i : Nat), i + d = S.length → ∀ out : List Int, (∀ e, e ∈ out ↔ Edge ((S.take i).flatten) e) → out.length ≤ 2 * (S.take i).flatten.length + 1 →
    ∃ out', Loop (alphabet_edges.b1 S) (out, (i : Int)) = alphabet_edges.k1 out' ∧ (∀ e, e ∈ out' ↔ Edge S.flatten e) ∧ out'.length ≤ 2 * S.flatten.length + 1
  | 0, i, h, out, hm, ho => by
    obtain rfl : i = S.length := by omega
    rw [List.take_length] at hm ho
    refine ⟨out, Loop_end ?_, hm, ho⟩
    simp only [alphabet_edges.b1]
    rw [if_neg (by simp)]
  | d + 1, i, h, out, hm, ho => by
    have hi : i < S.length := by omega
    obtain ⟨o1, h1, h2, h3⟩ := ed_inner hok hl hi S[i].length 0 (by omega) out (fun e => by rw [hm]; simp) (by omega)
    obtain ⟨o2, q1, q2, q3⟩ := ed_outer hok hl hs d (i + 1) (by omega) o1 h2 h3
    refine ⟨o2, ?_, q2, q3⟩
    rw [← q1]
    refine Loop_next ?_
    simp only [alphabet_edges.b1]
    rw [if_pos (by simpa using hi), idx_nat, List.getElem?_eq_getElem hi, Option.bind_some]
    refine h1.trans ?_
    unfold alphabet_edges.k2
    rw [w64s (by omega)]
theorem edges_ok {S : List (List TRange)} (hok : ∀ x ∈ S.flatten, Ok x) (hl : S.flatten.length ≤ 1000000) (hs : S.length ≤ 1000000) : ∃ E, alphabet_edges S = some E ∧ E.Pairwise (· < ·) ∧ (∀ e, e ∈ E ↔ Edge S.flatten e) ∧ E.length ≤ 2 * S.flatten.length + 1 := by
  obtain ⟨o, h1, h2, h3⟩ := ed_outer hok hl hs S.length 0 (by omega) [0] (fun e => by simp [Edge]) (by simp)
  have hp : (o.mergeSort fun x y => decide (x ≤ y)).Perm o := List.mergeSort_perm _ _
  have hsort : (o.mergeSort fun x y => decide (x ≤ y)).Pairwise (· ≤ ·) := by
    have := List.pairwise_mergeSort (le := fun x y : Int => decide (x ≤ y)) (by intro a b c; simp; omega) (by intro a b; simp; omega) o
    exact this.imp (by simp)
  obtain ⟨c1, c2, c3⟩ := compact_spec hsort
  have hlen := hp.length_eq
  refine ⟨Go.Lib.compact (o.mergeSort fun x y => decide (x ≤ y)), ?_, c1, fun e => by rw [c2, hp.mem_iff, h2], by omega⟩
  refine h1.trans ?_
  unfold alphabet_edges.k1 sortI
  rw [if_pos (by unfold roomOf; omega), Option.bind_some]
  unfold slices_Compact_int_int
  rw [if_pos (by unfold roomOf; omega)]; rfl
end Go.Val

/- part R13 -/
/- Plain lemmas: the reference's edges are the program's. -/
namespace Go.Val
set_option linter.unusedVariables false
set_option linter.unusedSimpArgs false
theorem rising9_eq : scansionref09_rising = scansionref02_rising := rfl
theorem red_inner {S : List (List TRange)} (hok : ∀ x ∈ S.flatten, Ok x) (hl : S.flatten.length ≤ 1000000) {i : Nat} (hi : i < S.length) : ∀ (d k : Nat), k + d = S[i].length → ∀ out : List Int, out.Pairwise (· < ·) → (∀ e, e ∈ out ↔ Edge ((S.take i).flatten ++ S[i].take k) e) → out.length ≤ 2 * ((S.take i).flatten.length + k) + 1 →
    ∃ out', Loop (scansionref09_edges.b2 S (i : Int)) (out, (k : Int)) = scansionref09_edges.k2 (i : Int) out' ∧ out'.Pairwise (· < ·) ∧ (∀ e, e ∈ out' ↔ Edge ((S.take (i + 1)).flatten) e) ∧ out'.length ≤ 2 * (S.take (i + 1)).flatten.length + 1
  | 0, k, h, out, hp, hm, ho => by
    obtain rfl : k = S[i].length := by omega
    refine ⟨out, Loop_end ?_, hp, fun e => by rw [hm, flat_snoc hi, List.take_length], by rw [flat_snoc hi, List.length_append]; exact ho⟩
    simp only [scansionref09_edges.b2]
    rw [idx_nat, List.getElem?_eq_getElem hi, Option.bind_some, if_neg (by simp)]
  | d + 1, k, h, out, hp, hm, ho => by
    have hk : k < S[i].length := by omega
    have hel := ed_len hi
    obtain ⟨a, b, c⟩ := hok _ (mem_flat hi (List.getElem_mem hk))
    have htk : S[i].take (k + 1) = S[i].take k ++ [S[i][k]] := take_snocP hk
    obtain ⟨r, r1, r2, r3, r4⟩ := rising_spec (n := S[i][k].Low) hp (by omega)
    by_cases hh : S[i][k].High < 1114111
    · obtain ⟨q, q1, q2, q3, q4⟩ := rising_spec (n := S[i][k].High + 1) r2 (by omega)
      obtain ⟨out', h1, h2, h3, h4⟩ := red_inner hok hl hi d (k + 1) (by omega) q q2 (fun e => by
        rw [htk, ← List.append_assoc, Edge_snoc, ← hm, q3, r3]
        constructor
        · rintro (h | h)
          · exact .inl h
          · exact .inr ⟨hh, h⟩
        · rintro (h | h)
          · exact .inl h
          · exact .inr h.2) (by omega)
      refine ⟨out', ?_, h2, h3, h4⟩
      rw [← h1]
      refine Loop_next ?_
      simp only [scansionref09_edges.b2]
      rw [idx_nat, List.getElem?_eq_getElem hi, Option.bind_some, if_pos (by simpa using hk), idx_nat, List.getElem?_eq_getElem hk, Option.bind_some, rising9_eq, r1, Option.bind_some, if_pos (decide_eq_true hh), w64 (n := S[i][k].High + 1) (by omega) (by omega), q1, Option.bind_some]
      unfold scansionref09_edges.k3
      rw [w64s (by omega)]
    · obtain ⟨out', h1, h2, h3, h4⟩ := red_inner hok hl hi d (k + 1) (by omega) r r2 (fun e => by
        rw [htk, ← List.append_assoc, Edge_snoc, ← hm, r3]
        constructor
        · exact .inl
        · rintro (h | h)
          · exact h
          · exact absurd h.1 hh) (by omega)
      refine ⟨out', ?_, h2, h3, h4⟩
      rw [← h1]
      refine Loop_next ?_
      simp only [scansionref09_edges.b2]
      rw [idx_nat, List.getElem?_eq_getElem hi, Option.bind_some, if_pos (by simpa using hk), idx_nat, List.getElem?_eq_getElem hk, Option.bind_some, rising9_eq, r1, Option.bind_some, if_neg (by simpa using hh)]
      unfold scansionref09_edges.k3
      rw [w64s (by omega)]
theorem red_outer {S : List (List TRange)} (hok : ∀ x ∈ S.flatten, Ok x) (hl : S.flatten.length ≤ 1000000) (hs : S.length ≤ 1000000) : ∀ (d i : Nat), i + d = S.length → ∀ out : List Int, out.Pairwise (· < ·) → (∀ e, e ∈ out ↔ Edge ((S.take i).flatten) e) → out.length ≤ 2 * (S.take i).flatten.length + 1 →
    ∃ out', Loop (scansionref09_edges.b1 S) (out, (i : Int)) = some out' ∧ out'.Pairwise (· < ·) ∧ (∀ e, e ∈ out' ↔ Edge S.flatten e)
  | 0, i, h, out, hp, hm, ho => by
    obtain rfl : i = S.length := by omega
    rw [List.take_length] at hm
    refine ⟨out, Loop_end (R := some out) ?_, hp, hm⟩
    simp only [scansionref09_edges.b1]
    rw [if_neg (by simp)]; rfl
  | d + 1, i, h, out, hp, hm, ho => by
    have hi : i < S.length := by omega
    obtain ⟨o1, h1, h2, h3, h4⟩ := red_inner hok hl hi S[i].length 0 (by omega) out hp (fun e => by rw [hm]; simp) (by omega)
    obtain ⟨o2, q1, q2, q3⟩ := red_outer hok hl hs d (i + 1) (by omega) o1 h2 h3 h4
    refine ⟨o2, ?_, q2, q3⟩
    rw [← q1]
    refine Loop_next ?_
    simp only [scansionref09_edges.b1]
    rw [if_pos (by simpa using hi)]
    refine h1.trans ?_
    unfold scansionref09_edges.k2
    rw [w64s (by omega)]
/-- The rising edges of sets; both find them. -/
theorem edges_both {S : List (List TRange)} (hok : ∀ x ∈ S.flatten, Ok x) (hl : S.flatten.length ≤ 1000000) (hs : S.length ≤ 1000000) : ∃ E, alphabet_edges S = some E ∧ scansionref09_edges S = some E ∧ E.Pairwise (· < ·) ∧ (∀ e, e ∈ E ↔ Edge S.flatten e) ∧ E.length ≤ 2 * S.flatten.length + 1 := by
  obtain ⟨E, h1, h2, h3, h4⟩ := edges_ok hok hl hs
  obtain ⟨D, q1, q2, q3⟩ := red_outer hok hl hs S.length 0 (by omega) [0] (List.pairwise_singleton _ _) (fun e => by simp [Edge]) (by simp)
  have : D = E := rise_unique q2 h2 fun x => by rw [q3, h3]
  subst this
  exact ⟨D, h1, q1, h2, h3, h4⟩
end Go.Val

/- part R14 -/
/- Plain lemmas: the classes of the program. -/
namespace Go.Val
set_option linter.unusedVariables false
set_option linter.unusedSimpArgs false
/-- One number of each class, where it is first. -/
def addR {α K : Type} [DecidableEq K] (f : α → K) (L : List α) (a : α) : List α := if f a ∈ L.map f then L else L ++ [a]
def reps {α K : Type} [DecidableEq K] (f : α → K) (l : List α) : List α := l.foldl (addR f) []
theorem reps_snoc {α K : Type} [DecidableEq K] {f : α → K} {l : List α} {a : α} : reps f (l ++ [a]) = addR f (reps f l) a := by
  unfold reps; rw [List.foldl_append]; rfl
theorem reps_map {α K : Type} [DecidableEq K] {f : α → K} {l : List α} : (reps f l).map f = firsts (l.map f) := by
  induction l using snoc_ind with
  | h0 => rfl
  | h1 l x ih =>
    rw [reps_snoc, List.map_append, List.map_singleton, firsts_snoc, ← ih]
    unfold addR addF
    split <;> simp
theorem reps_len {α K : Type} [DecidableEq K] {f : α → K} {l : List α} : (reps f l).length = (firsts (l.map f)).length := by rw [← reps_map, List.length_map]
/-- A number's mask. -/
def mkI (S : List (List TRange)) (r : Int) : Int := ((maskP S r S.length : Nat) : Int)
/-- The first pieces between edges, with their classes. -/
def pieces (f : Int → Int) (E : List Int) (k : Nat) : List TProp := (List.range k).map fun i => ⟨bnd E i, bnd E (i + 1) - 1, UInt8.ofNat (pos (firsts (E.map f)) (f (bnd E i)))⟩
theorem pieces_succ {f : Int → Int} {E : List Int} {k : Nat} : pieces f E (k + 1) = pieces f E k ++ [⟨bnd E k, bnd E (k + 1) - 1, UInt8.ofNat (pos (firsts (E.map f)) (f (bnd E k)))⟩] := by
  unfold pieces; rw [List.range_succ, List.map_append]; rfl
theorem pieces_len {f : Int → Int} {E : List Int} {k : Nat} : (pieces f E k).length = k := by simp [pieces]
theorem take_map_pre {f : Int → Int} {E : List Int} (k : Nat) : firsts ((E.take k).map f) <+: firsts (E.map f) := by
  have : E.map f = (E.take k).map f ++ (E.drop k).map f := by rw [← List.map_append, List.take_append_drop]
  rw [this]; exact firsts_pre
variable {S : List (List TRange)} {E : List Int}
theorem new_k3 {k c : Nat} {L M : List Int} {m : List (Int × Int)} (hk : k < E.length) (hb : ∀ e ∈ E, 0 ≤ e ∧ e ≤ 1114111) (hE : E.length ≤ 4096) (hm : m.length ≤ 200) (hc : c < 256) (hp : c = pos (firsts (E.map (mkI S))) (mkI S (bnd E k))) :
    alphabet_New.k3 E (pieces (mkI S) E k) (k : Int) E[k] (c : Int) M L m = some (.next (pieces (mkI S) E (k + 1), ((k + 1 : Nat) : Int), M, L, m)) := by
  unfold alphabet_New.k3
  rw [if_neg (by simp; omega), w64s (by omega)]
  have h4 : ∀ h : Int, h = bnd E (k + 1) - 1 → alphabet_New.k4 (pieces (mkI S) E k) (k : Int) E[k] (c : Int) M L m h = some (.next (pieces (mkI S) E (k + 1), ((k + 1 : Nat) : Int), M, L, m)) := by
    intro h e
    unfold alphabet_New.k4
    rw [room_ok (by rw [pieces_len]; omega), Option.bind_some, w64s (by omega), u8w_nat hc, pieces_succ, ← hp, bnd_at hk, e]
  by_cases h1 : k + 1 < E.length
  · have hx := hb _ (List.getElem_mem h1)
    rw [if_pos (decide_eq_true (by omega)), idx_nat, List.getElem?_eq_getElem h1, Option.bind_some]
    exact h4 _ (by rw [bnd_at h1, w64 (by omega) (by omega)])
  · rw [if_neg (by simp; omega)]
    have e : k + 1 = E.length := by omega
    exact h4 _ (by rw [e, bnd_end]; rfl)
theorem new_loop (hn : ∀ s ∈ S, Norm s) (hS : S.length ≤ 60) (hb : ∀ e ∈ E, 0 ≤ e ∧ e ≤ 1114111) (hE : E.length ≤ 4096) : ∀ (d k : Nat), k + d = E.length → ∀ m : List (Int × Int), Knows m (firsts ((E.take k).map (mkI S))) → (firsts ((E.take k).map (mkI S))).length ≤ 200 →
    Loop (alphabet_New.b1 S E) (pieces (mkI S) E k, (k : Int), firsts ((E.take k).map (mkI S)), reps (mkI S) (E.take k), m) = if (firsts (E.map (mkI S))).length ≤ 200 then alphabet_New.k2 (pieces (mkI S) E E.length) (firsts (E.map (mkI S))) (reps (mkI S) E) else some (none, 3)
  | 0, k, h, m, hK, hF => by
    obtain rfl : k = E.length := by omega
    rw [List.take_length] at hF ⊢
    rw [if_pos hF]
    refine Loop_end ?_
    simp only [alphabet_New.b1]
    rw [if_neg (by simp)]
  | d + 1, k, h, m, hK, hF => by
    have hk : k < E.length := by omega
    have hmask : alphabet_mask S E[k] = some (mkI S E[k]) := mask_eq hn hS E[k]
    have htk : (E.take (k + 1)).map (mkI S) = (E.take k).map (mkI S) ++ [mkI S E[k]] := by rw [take_snocP hk, List.map_append]; rfl
    have hr : reps (mkI S) (E.take (k + 1)) = addR (mkI S) (reps (mkI S) (E.take k)) E[k] := by rw [take_snocP hk, reps_snoc]
    have hpre := take_map_pre (f := mkI S) (E := E) (k + 1)
    have hmem : mkI S E[k] ∈ firsts ((E.take (k + 1)).map (mkI S)) := by rw [mem_firsts, htk]; simp
    have hrl := reps_len (f := mkI S) (l := E.take k)
    by_cases hin : mkI S E[k] ∈ firsts ((E.take k).map (mkI S))
    · have e1 : firsts ((E.take (k + 1)).map (mkI S)) = firsts ((E.take k).map (mkI S)) := by rw [htk, firsts_snoc, addF, if_pos hin]
      have e2 : reps (mkI S) (E.take (k + 1)) = reps (mkI S) (E.take k) := by rw [hr, addR, reps_map, if_pos hin]
      have ih := new_loop hn hS hb hE d (k + 1) (by omega) m (by rw [e1]; exact hK) (by rw [e1]; exact hF)
      rw [← ih, e1, e2]
      refine Loop_next ?_
      simp only [alphabet_New.b1]
      rw [if_pos (by simpa using hk), idx_nat, List.getElem?_eq_getElem hk, Option.bind_some, hmask, Option.bind_some, hK.some hin]
      simp only [Option.isSome_some, Bool.not_true, Bool.false_eq_true, if_false, Option.getD_some]
      have hlt := pos_lt hin
      refine new_k3 hk hb hE (by rw [hK.1]; exact hF) (by omega) ?_
      rw [bnd_at hk, pos_pre hpre hmem, e1]
    · have e1 : firsts ((E.take (k + 1)).map (mkI S)) = firsts ((E.take k).map (mkI S)) ++ [mkI S E[k]] := by rw [htk, firsts_snoc, addF, if_neg hin]
      have e2 : reps (mkI S) (E.take (k + 1)) = reps (mkI S) (E.take k) ++ [E[k]] := by rw [hr, addR, reps_map, if_neg hin]
      have hK2 := hK.new hin
      have hstep : alphabet_New.b1 S E (pieces (mkI S) E k, (k : Int), firsts ((E.take k).map (mkI S)), reps (mkI S) (E.take k), m) = alphabet_New.k3 E (pieces (mkI S) E k) (k : Int) E[k] ((firsts ((E.take k).map (mkI S))).length : Int) (firsts ((E.take k).map (mkI S)) ++ [mkI S E[k]]) (reps (mkI S) (E.take k) ++ [E[k]]) (aput (mkI S E[k]) ((firsts ((E.take k).map (mkI S))).length : Int) m) := by
        simp only [alphabet_New.b1]
        rw [if_pos (by simpa using hk), idx_nat, List.getElem?_eq_getElem hk, Option.bind_some, hmask, Option.bind_some, hK.none hin]
        simp only [Option.isSome_none, Bool.not_false, if_true]
        rw [room_ok (by omega), Option.bind_some, room_ok (by omega), Option.bind_some, hK.1]
      by_cases hf : (firsts ((E.take k).map (mkI S))).length < 200
      · have ih := new_loop hn hS hb hE d (k + 1) (by omega) _ (by rw [e1]; exact hK2) (by rw [e1, List.length_append, List.length_singleton]; omega)
        rw [← ih, e1, e2]
        refine Loop_next (hstep.trans (new_k3 hk hb hE (by rw [hK2.1, List.length_append, List.length_singleton]; omega) (by omega) ?_))
        rw [bnd_at hk, pos_pre hpre hmem, e1, pos_new hin]
      · have hlen := hpre.length_le
        rw [e1, List.length_append, List.length_singleton] at hlen
        rw [if_neg (by omega)]
        refine Loop_done (hstep.trans ?_)
        unfold alphabet_New.k3
        rw [if_pos (decide_eq_true (by rw [hK2.1, List.length_append, List.length_singleton]; omega))]
end Go.Val

/- part R15 -/
/- Plain lemmas: the classes of the reference; a number's value by the pieces. -/
namespace Go.Val
set_option linter.unusedVariables false
set_option linter.unusedSimpArgs false
variable {S : List (List TRange)} {E : List Int}
theorem find_eq {A : Tscansionref09_Alphabet} (hl : A.M.length ≤ 1000) (x : Int) : scansionref09_Alphabet_find A x = some (if x ∈ A.M then ((pos A.M x : Nat) : Int) else -1) := by
  unfold scansionref09_Alphabet_find
  have hle : pos A.M x ≤ A.M.length := List.idxOf_le_length
  have hrun := Loop_int (b := scansionref09_Alphabet_find.b1 A x) (i := 0) (n := pos A.M x) (Nat.zero_le _) (fun j _ hj => by
    have hjl : j < A.M.length := by omega
    have hne := pos_first hj
    rw [List.getElem?_eq_getElem hjl] at hne
    simp only [scansionref09_Alphabet_find.b1]
    rw [if_pos (by simpa using hjl), idx_nat, List.getElem?_eq_getElem hjl, Option.bind_some, if_neg (by simpa using hne), w64s (by omega)])
  simp only [Int.ofNat_zero, Int.natCast_zero] at hrun
  rw [hrun]
  by_cases hx : x ∈ A.M
  · rw [if_pos hx]
    refine Loop_done ?_
    simp only [scansionref09_Alphabet_find.b1]
    have hlt := pos_lt hx
    rw [if_pos (decide_eq_true (by omega)), idx_nat, pos_get hx, Option.bind_some, if_pos (by simp)]
  · rw [if_neg hx]
    have : pos A.M x = A.M.length := by
      unfold pos; exact List.idxOf_eq_length hx
    refine Loop_end (R := some (-1)) ?_
    simp only [scansionref09_Alphabet_find.b1]
    rw [if_neg (by simp; omega)]; rfl
theorem rnew_k3 {k c : Nat} {L M : List Int} (hk : k < E.length) (hb : ∀ e ∈ E, 0 ≤ e ∧ e ≤ 1114111) (hE : E.length ≤ 4096) (hm : M.length ≤ 200) (hc : c < 256) (hp : c = pos (firsts (E.map (mkI S))) (mkI S (bnd E k))) :
    scansionref09_New.k3 E (pieces (mkI S) E k) (k : Int) E[k] (c : Int) M L = some (.next (pieces (mkI S) E (k + 1), ((k + 1 : Nat) : Int), M, L)) := by
  unfold scansionref09_New.k3
  rw [if_neg (by simp; omega), w64s (by omega)]
  have h4 : ∀ h : Int, h = bnd E (k + 1) - 1 → scansionref09_New.k4 (pieces (mkI S) E k) (k : Int) E[k] (c : Int) M L h = some (.next (pieces (mkI S) E (k + 1), ((k + 1 : Nat) : Int), M, L)) := by
    intro h e
    unfold scansionref09_New.k4
    rw [room_ok (by rw [pieces_len]; omega), Option.bind_some, w64s (by omega), u8w_nat hc, pieces_succ, ← hp, bnd_at hk, e]
  by_cases h1 : k + 1 < E.length
  · have hx := hb _ (List.getElem_mem h1)
    rw [if_pos (decide_eq_true (by omega)), idx_nat, List.getElem?_eq_getElem h1, Option.bind_some]
    exact h4 _ (by rw [bnd_at h1, w64 (by omega) (by omega)])
  · rw [if_neg (by simp; omega)]
    have e : k + 1 = E.length := by omega
    exact h4 _ (by rw [e, bnd_end]; rfl)
theorem rnew_loop (hn : ∀ s ∈ S, s.length < 9223372036854775807) (hS : S.length ≤ 60) (hb : ∀ e ∈ E, 0 ≤ e ∧ e ≤ 1114111) (hE : E.length ≤ 4096) : ∀ (d k : Nat), k + d = E.length → (firsts ((E.take k).map (mkI S))).length ≤ 200 →
    Loop (scansionref09_New.b1 S E) (pieces (mkI S) E k, (k : Int), firsts ((E.take k).map (mkI S)), reps (mkI S) (E.take k)) = if (firsts (E.map (mkI S))).length ≤ 200 then scansionref09_New.k2 S (pieces (mkI S) E E.length) (firsts (E.map (mkI S))) (reps (mkI S) E) else some (none, 3)
  | 0, k, h, hF => by
    obtain rfl : k = E.length := by omega
    rw [List.take_length] at hF ⊢
    rw [if_pos hF]
    refine Loop_end ?_
    simp only [scansionref09_New.b1]
    rw [if_neg (by simp)]
  | d + 1, k, h, hF => by
    have hk : k < E.length := by omega
    have hmask : scansionref09_mask S E[k] = some (mkI S E[k]) := refMask_eq hn hS E[k]
    have htk : (E.take (k + 1)).map (mkI S) = (E.take k).map (mkI S) ++ [mkI S E[k]] := by rw [take_snocP hk, List.map_append]; rfl
    have hr : reps (mkI S) (E.take (k + 1)) = addR (mkI S) (reps (mkI S) (E.take k)) E[k] := by rw [take_snocP hk, reps_snoc]
    have hpre := take_map_pre (f := mkI S) (E := E) (k + 1)
    have hmem : mkI S E[k] ∈ firsts ((E.take (k + 1)).map (mkI S)) := by rw [mem_firsts, htk]; simp
    have hrl := reps_len (f := mkI S) (l := E.take k)
    have hfind := find_eq (A := ⟨S, firsts ((E.take k).map (mkI S)), reps (mkI S) (E.take k)⟩) (by show (firsts _).length ≤ 1000; omega) (mkI S E[k])
    simp only at hfind
    by_cases hin : mkI S E[k] ∈ firsts ((E.take k).map (mkI S))
    · have e1 : firsts ((E.take (k + 1)).map (mkI S)) = firsts ((E.take k).map (mkI S)) := by rw [htk, firsts_snoc, addF, if_pos hin]
      have e2 : reps (mkI S) (E.take (k + 1)) = reps (mkI S) (E.take k) := by rw [hr, addR, reps_map, if_pos hin]
      have ih := rnew_loop hn hS hb hE d (k + 1) (by omega) (by rw [e1]; exact hF)
      rw [← ih, e1, e2]
      refine Loop_next ?_
      simp only [scansionref09_New.b1]
      rw [if_pos (by simpa using hk), idx_nat, List.getElem?_eq_getElem hk, Option.bind_some, hmask, Option.bind_some, hfind, Option.bind_some, if_pos hin, if_neg (by simp)]
      have hlt := pos_lt hin
      refine rnew_k3 hk hb hE hF (by omega) ?_
      rw [bnd_at hk, pos_pre hpre hmem, e1]
    · have e1 : firsts ((E.take (k + 1)).map (mkI S)) = firsts ((E.take k).map (mkI S)) ++ [mkI S E[k]] := by rw [htk, firsts_snoc, addF, if_neg hin]
      have e2 : reps (mkI S) (E.take (k + 1)) = reps (mkI S) (E.take k) ++ [E[k]] := by rw [hr, addR, reps_map, if_neg hin]
      have hstep : scansionref09_New.b1 S E (pieces (mkI S) E k, (k : Int), firsts ((E.take k).map (mkI S)), reps (mkI S) (E.take k)) = scansionref09_New.k3 E (pieces (mkI S) E k) (k : Int) E[k] ((firsts ((E.take k).map (mkI S))).length : Int) (firsts ((E.take k).map (mkI S)) ++ [mkI S E[k]]) (reps (mkI S) (E.take k) ++ [E[k]]) := by
        simp only [scansionref09_New.b1]
        rw [if_pos (by simpa using hk), idx_nat, List.getElem?_eq_getElem hk, Option.bind_some, hmask, Option.bind_some, hfind, Option.bind_some, if_neg hin, if_pos (by decide), room_ok (by omega), Option.bind_some, room_ok (by omega), Option.bind_some]
      by_cases hf : (firsts ((E.take k).map (mkI S))).length < 200
      · have ih := rnew_loop hn hS hb hE d (k + 1) (by omega) (by rw [e1, List.length_append, List.length_singleton]; omega)
        rw [← ih, e1, e2]
        refine Loop_next (hstep.trans (rnew_k3 hk hb hE (by rw [List.length_append, List.length_singleton]; omega) (by omega) ?_))
        rw [bnd_at hk, pos_pre hpre hmem, e1, pos_new hin]
      · have hlen := hpre.length_le
        rw [e1, List.length_append, List.length_singleton] at hlen
        rw [if_neg (by omega)]
        refine Loop_done (hstep.trans ?_)
        unfold scansionref09_New.k3
        rw [if_pos (decide_eq_true (by rw [List.length_append, List.length_singleton]; omega))]
theorem bnd_mono (hp : E.Pairwise (· < ·)) (hE : ∀ e ∈ E, e ≤ 1114111) : ∀ (d i : Nat), i + d ≤ E.length → bnd E i ≤ bnd E (i + d)
  | 0, i, h => Int.le_refl _
  | d + 1, i, h => by
    have h1 := bnd_mono hp hE d i (by omega)
    have h2 := bnd_lt hp hE (k := i + d) (by omega)
    rw [← bnd_at (by omega)] at h2
    rw [← Nat.add_assoc]; omega
/-- Each number is in one piece. -/
theorem piece_at (hp : E.Pairwise (· < ·)) (hE : ∀ e ∈ E, 0 ≤ e ∧ e ≤ 1114111) (h0 : (0 : Int) ∈ E) {r : Int} (hr : 0 ≤ r) (hr2 : r ≤ 1114111) : ∃ k, k < E.length ∧ bnd E k ≤ r ∧ r < bnd E (k + 1) := by
  have hpos : 0 < E.length := List.length_pos_of_mem h0
  have hz : bnd E 0 = 0 := by
    rw [bnd_at hpos]
    obtain ⟨j, hj, e⟩ := List.getElem_of_mem h0
    have h1 := hE _ (List.getElem_mem hpos)
    rcases Nat.eq_zero_or_pos j with q | q
    · subst q; exact e
    · have := (List.pairwise_iff_getElem.1 hp) 0 j hpos hj q
      omega
  have key : ∀ n, n ≤ E.length → (∃ k, k < n ∧ bnd E k ≤ r ∧ r < bnd E (k + 1)) ∨ bnd E n ≤ r := by
    intro n
    induction n with
    | zero => exact fun _ => .inr (by omega)
    | succ n ih =>
      intro hn
      rcases ih (by omega) with ⟨k, h1, h2⟩ | h
      · exact .inl ⟨k, by omega, h2⟩
      · by_cases hc : bnd E (n + 1) ≤ r
        · exact .inr hc
        · exact .inl ⟨n, by omega, h, by omega⟩
  rcases key E.length (Nat.le_refl _) with h | h
  · exact h
  · rw [bnd_end] at h; omega
theorem pieces_val {f : Int → Int} (hp : E.Pairwise (· < ·)) (hE : ∀ e ∈ E, 0 ≤ e ∧ e ≤ 1114111) {k : Nat} (hk : k < E.length) {r : Int} (h1 : bnd E k ≤ r) (h2 : r < bnd E (k + 1)) : ∀ j, j ≤ E.length → valN (pieces f E j) r = if k < j then UInt8.ofNat (pos (firsts (E.map f)) (f (bnd E k))) else 0
  | 0, _ => by rw [if_neg (by omega)]; rfl
  | j + 1, hj => by
    rw [pieces_succ, valN_snoc, pieces_val hp hE hk h1 h2 j (by omega)]
    have hm := fun d i => bnd_mono hp (fun e he => (hE e he).2) d i
    by_cases e : j = k
    · subst e
      rw [if_pos ⟨h1, by show r ≤ bnd E (j + 1) - 1; omega⟩, if_pos (by omega)]
    · rw [if_neg]
      · by_cases hlt : k < j
        · rw [if_pos hlt, if_pos (by omega)]
        · rw [if_neg hlt, if_neg (by omega)]
      · show ¬ (bnd E j ≤ r ∧ r ≤ bnd E (j + 1) - 1)
        rintro ⟨a, b⟩
        rcases Nat.lt_or_ge j k with q | q
        · have := hm (k - (j + 1)) (j + 1) (by omega)
          rw [show j + 1 + (k - (j + 1)) = k by omega] at this; omega
        · have := hm (j - (k + 1)) (k + 1) (by omega)
          rw [show k + 1 + (j - (k + 1)) = j by omega] at this; omega
theorem pieces_ok {f : Int → Int} (hp : E.Pairwise (· < ·)) (hE : ∀ e ∈ E, 0 ≤ e ∧ e ≤ 1114111) : ∀ x ∈ pieces f E E.length, OkP x := by
  intro x hx
  unfold pieces at hx
  obtain ⟨i, hi, rfl⟩ := List.mem_map.1 hx
  have hi2 : i < E.length := List.mem_range.1 hi
  have h1 := bnd_lt hp (fun e he => (hE e he).2) hi2
  have h2 := hE _ (List.getElem_mem hi2)
  unfold OkP
  simp only
  rw [← bnd_at hi2] at h1 h2
  refine ⟨h2.1, by omega, ?_⟩
  by_cases h3 : i + 1 < E.length
  · have := hE _ (List.getElem_mem h3)
    rw [bnd_at h3]; omega
  · rw [show i + 1 = E.length by omega, bnd_end]; omega
end Go.Val

/- part R16 -/
/- Plain lemmas: the program's alphabet and the reference's, whole. -/
namespace Go.Val
set_option linter.unusedVariables false
set_option linter.unusedSimpArgs false
theorem least_bad {P : Nat → Prop} {n : Nat} (h : ∃ j, j < n ∧ ¬ P j) : ∃ j, j < n ∧ ¬ P j ∧ ∀ i, i < j → P i := by
  obtain ⟨j, hj⟩ := h
  induction j using Nat.strongRecOn with
  | _ j ih =>
    by_cases hc : ∃ i, i < j ∧ ¬ P i
    · obtain ⟨i, hi, hP⟩ := hc
      exact ih i hi ⟨by omega, hP⟩
    · exact ⟨j, hj.1, hj.2, fun i hi => Classical.byContradiction fun hP => hc ⟨i, hi, hP⟩⟩
theorem Equal_same : slices_Equal_api_Range_api_Range = scansionref02_Same := rfl
/-- Make by both. -/
theorem Make_both {l : List TRange} (hl : l.length ≤ 1000000) : ∃ out e, ranges_Make l = some (out, e) ∧ scansionref02_Make l = some (out, e) ∧ Norm out ∧ out.length ≤ l.length ∧ (e = 0 → ∀ t, In out t ↔ In l t) ∧ (e ≠ 0 → e = 1 ∧ out = [] ∧ ¬ ∀ x ∈ l, Ok x) := by
  by_cases hok : ∀ x ∈ l, Ok x
  · obtain ⟨o, h1, h2, h3, h4⟩ := Make_ok hok (by omega)
    obtain ⟨p, q1, q2, q3⟩ := refMake_ok hok (by omega)
    have e : p = o := Norm.unique q2 h2 fun r => by rw [q3, h3]
    subst e
    exact ⟨p, 0, h1, q1, h2, h4, fun _ => h3, fun h => absurd rfl h⟩
  · exact ⟨[], 1, Make_bad hok (by omega), refMake_bad hok (by omega), Norm_nil, by simp, fun h => by simp at h, fun _ => ⟨rfl, rfl, hok⟩⟩
theorem Make_norm {l out : List TRange} {e : Int} (h : Norm l) (ho : Norm out) (h0 : e = 0 → ∀ t, In out t ↔ In l t) (h1 : e ≠ 0 → e = 1 ∧ out = [] ∧ ¬ ∀ x ∈ l, Ok x) : e = 0 ∧ out = l := by
  by_cases he : e = 0
  · exact ⟨he, Norm.unique ho h (h0 he)⟩
  · exact absurd h.1 (h1 he).2.2
/-- Sets that the program takes. -/
structure Good (S : List (List TRange)) : Prop where
  norm : ∀ s ∈ S, Norm s
  few : S.length ≤ 60
  small : S.flatten.length ≤ 1200
theorem Good.ok {S : List (List TRange)} (h : Good S) : ∀ x ∈ S.flatten, Ok x := by
  intro x hx
  obtain ⟨s, hs, hx⟩ := List.mem_flatten.1 hx
  exact (h.norm s hs).1 x hx
noncomputable def edg (S : List (List TRange)) : List Int := (alphabet_edges S).getD []
theorem edg_spec {S : List (List TRange)} (h : Good S) : alphabet_edges S = some (edg S) ∧ scansionref09_edges S = some (edg S) ∧ (edg S).Pairwise (· < ·) ∧ (∀ e, e ∈ edg S ↔ Edge S.flatten e) ∧ (edg S).length ≤ 2 * S.flatten.length + 1 := by
  obtain ⟨E, h1, h2, h3, h4, h5⟩ := edges_both h.ok (by have := h.small; omega) (by have := h.few; omega)
  have : edg S = E := by unfold edg; rw [h1]; rfl
  rw [this]; exact ⟨h1, h2, h3, h4, h5⟩
theorem edg_bound {S : List (List TRange)} (h : Good S) : ∀ e ∈ edg S, 0 ≤ e ∧ e ≤ 1114111 := fun e he => Edge_bound h.ok ((edg_spec h).2.2.2.1 e |>.1 he)
/-- The masks of all classes; their least numbers; the pieces. -/
noncomputable def cls (S : List (List TRange)) : List Int := firsts ((edg S).map (mkI S))
noncomputable def lst (S : List (List TRange)) : List Int := reps (mkI S) (edg S)
noncomputable def prp (S : List (List TRange)) : List TProp := pieces (mkI S) (edg S) (edg S).length
def nB : Nat := 4352
theorem nB_eq : nB = 4352 := by unfold nB; rfl
def Fit (S : List (List TRange)) : Prop := (cls S).length ≤ 200 ∧ (firsts (blks (prp S) nB)).length ≤ 256
/-- A number's class. -/
noncomputable def clsOf (S : List (List TRange)) (r : Int) : Nat := pos (cls S) (mkI S r)
theorem mkI_piece {S : List (List TRange)} (h : Good S) {k : Nat} (hk : k < (edg S).length) {r : Int} (h1 : bnd (edg S) k ≤ r) (h2 : r < bnd (edg S) (k + 1)) (h3 : r ≤ 1114111) : mkI S r = mkI S (bnd (edg S) k) := by
  have hs := edg_spec h
  rw [bnd_at hk] at h1 ⊢
  unfold mkI
  have key : ∀ n, maskP S r n = maskP S (edg S)[k] n := by
    intro n
    induction n with
    | zero => rfl
    | succ n ih =>
      simp only [maskP, ih]
      by_cases hn : n < S.length
      · have hg : S.getD n [] = S[n] := by simp [List.getD_eq_getElem?_getD, List.getElem?_eq_getElem hn]
        rw [hg, const_at h.ok hs.2.2.1 hs.2.2.2.1 (fun x hx => mem_flat hn hx) hk h1 h2 h3]
      · have hg : S.getD n [] = [] := by simp [List.getD_eq_getElem?_getD, List.getElem?_eq_none (Nat.le_of_not_lt hn)]
        rw [hg]; rfl
  rw [key]
theorem edg_piece {S : List (List TRange)} (h : Good S) {r : Int} (hr : 0 ≤ r) (hr2 : r ≤ 1114111) : ∃ k, k < (edg S).length ∧ bnd (edg S) k ≤ r ∧ r < bnd (edg S) (k + 1) := piece_at (edg_spec h).2.2.1 (edg_bound h) ((edg_spec h).2.2.2.1 0 |>.2 (.inl rfl)) hr hr2
theorem mkI_mem {S : List (List TRange)} (h : Good S) {r : Int} (hr : 0 ≤ r) (hr2 : r ≤ 1114111) : mkI S r ∈ cls S := by
  obtain ⟨k, hk, h1, h2⟩ := edg_piece h hr hr2
  rw [mkI_piece h hk h1 h2 hr2, bnd_at hk]
  unfold cls
  rw [mem_firsts]
  exact List.mem_map_of_mem (List.getElem_mem hk)
theorem prp_val {S : List (List TRange)} (h : Good S) {r : Int} (hr : 0 ≤ r) (hr2 : r ≤ 1114111) : valN (prp S) r = UInt8.ofNat (clsOf S r) := by
  obtain ⟨k, hk, h1, h2⟩ := edg_piece h hr hr2
  unfold prp clsOf
  rw [pieces_val (edg_spec h).2.2.1 (edg_bound h) hk h1 h2 _ (Nat.le_refl _), if_pos hk, mkI_piece h hk h1 h2 hr2]; rfl
theorem prp_ok {S : List (List TRange)} (h : Good S) : ∀ x ∈ prp S, OkP x := pieces_ok (edg_spec h).2.2.1 (edg_bound h)
theorem prp_len {S : List (List TRange)} (h : Good S) : (prp S).length ≤ 2401 := by
  have := (edg_spec h).2.2.2.2
  have := h.small
  unfold prp; rw [pieces_len]; omega
theorem prp_len2 {S : List (List TRange)} (h : Good S) : (prp S).length ≤ 4096 := by have := prp_len h; omega
theorem Build_two {N : Nat} (hN : N = 4352) {l : List TProp} (ho : ∀ x ∈ l, OkP x) (hl : l.length ≤ 4096) :
    ((firsts (blks l N)).length ≤ 256 → ∃ like', LikeOk l like' N ∧ trie_Build l = some (some ⟨like', firsts (blks l N)⟩, 0)) ∧ (¬ (firsts (blks l N)).length ≤ 256 → trie_Build l = some (none, 3)) := by
  have h := Build_of hN ho hl
  constructor
  · intro f; rw [if_pos f] at h; exact h
  · intro f; rw [if_neg f] at h; exact h
theorem New_k1 {S : List (List TRange)} (h : Good S) : (Fit S → ∃ like, LikeOk (prp S) like nB ∧ alphabet_New.k1 S = some (some ⟨⟨like, firsts (blks (prp S) nB)⟩, cls S, lst S⟩, 0)) ∧ (¬ Fit S → alphabet_New.k1 S = some (none, 3)) := by
  have hs := edg_spec h
  have hsm := h.small
  have hloop := new_loop (E := edg S) h.norm h.few (edg_bound h) (by omega) (edg S).length 0 (by omega) [] Knows_nil (by simp [firsts])
  have hk1 : alphabet_New.k1 S = if (cls S).length ≤ 200 then alphabet_New.k2 (prp S) (cls S) (lst S) else some (none, 3) := by
    unfold alphabet_New.k1
    rw [hs.1, Option.bind_some]; exact hloop
  have hb := Build_two (N := nB) nB_eq (prp_ok h) (prp_len2 h)
  rw [hk1]
  constructor
  · rintro ⟨f1, f2⟩
    obtain ⟨like, b1, b2⟩ := hb.1 f2
    refine ⟨like, b1, ?_⟩
    rw [if_pos f1]
    unfold alphabet_New.k2
    rw [b2, Option.bind_some]; rfl
  · intro hf
    by_cases f1 : (cls S).length ≤ 200
    · have f2 : ¬ (firsts (blks (prp S) nB)).length ≤ 256 := fun f2 => hf ⟨f1, f2⟩
      rw [if_pos f1]
      unfold alphabet_New.k2
      rw [hb.2 f2, Option.bind_some]; rfl
    · rw [if_neg f1]
open Classical in
theorem refNew_k1 {S : List (List TRange)} (h : Good S) : scansionref09_New.k1 S = some (if Fit S then (some ⟨S, cls S, lst S⟩, 0) else (none, 3)) := by
  have hs := edg_spec h
  have hsm := h.small
  have hloop := rnew_loop (S := S) (E := edg S) (fun s hs => by have := (h.norm s hs).len; omega) h.few (edg_bound h) (by omega) (edg S).length 0 (by omega) (by simp [firsts])
  have hk1 : scansionref09_New.k1 S = if (cls S).length ≤ 200 then scansionref09_New.k2 S (prp S) (cls S) (lst S) else some (none, 3) := by
    unfold scansionref09_New.k1
    rw [hs.2.1, Option.bind_some]; exact hloop
  obtain ⟨x, hx⟩ := refBuild_eq (N := nB) nB_eq (prp_ok h) (prp_len2 h)
  rw [hk1]
  by_cases f1 : (cls S).length ≤ 200
  · rw [if_pos f1]
    unfold scansionref09_New.k2
    rw [hx, Option.bind_some]
    by_cases f2 : (firsts (blks (prp S) nB)).length ≤ 256
    · have hF : Fit S := ⟨f1, f2⟩
      rw [if_pos f2, if_pos hF]
      cases x <;> rfl
    · have hF : ¬ Fit S := fun h => f2 h.2
      rw [if_neg f2, if_neg hF]
      cases x <;> rfl
  · have hF : ¬ Fit S := fun h => f1 h.1
    rw [if_neg f1, if_neg hF]
end Go.Val

/- part R17 -/
/- Plain lemmas: how many there are of each; what an alphabet tells. -/
namespace Go.Val
set_option linter.unusedVariables false
set_option linter.unusedSimpArgs false
set_option linter.unusedSectionVars false
section
variable {α K K' : Type} [DecidableEq K] [DecidableEq K']
theorem nodup_sub_len [DecidableEq α] : ∀ {l m : List α}, l.Nodup → (∀ x ∈ l, x ∈ m) → l.length ≤ m.length
  | [], m, _, _ => by simp
  | a :: l, m, h, hs => by
    rw [List.nodup_cons] at h
    have ha := hs a (by simp)
    have ih := nodup_sub_len (l := l) (m := m.erase a) h.2 fun x hx => by
      have hne : x ≠ a := fun e => h.1 (e ▸ hx)
      exact (List.mem_erase_of_ne hne).2 (hs x (by simp [hx]))
    rw [List.length_erase_of_mem ha] at ih
    have := List.length_pos_of_mem ha
    simp; omega
end
theorem clsOf_lt {S : List (List TRange)} (h : Good S) {x : Int} (hx : 0 ≤ x ∧ x ≤ 1114111) : clsOf S x < (cls S).length := pos_lt (mkI_mem h hx.1 hx.2)
theorem blockOf_val {S : List (List TRange)} (h : Good S) {k j : Nat} (hk : k < 4352) (hj : j < 256) : (blockOf (prp S) k).toList[j]? = some (UInt8.ofNat (clsOf S ((k * 256 + j : Nat) : Int))) := by
  rw [blockOf_get _ _ _ hj, prp_val h (by omega) (by omega)]
theorem lst_len {S : List (List TRange)} : (lst S).length = (cls S).length := reps_len
end Go.Val

/- part R18 -/
/- Plain lemmas: what an alphabet tells. -/
namespace Go.Val
set_option linter.unusedVariables false
set_option linter.unusedSimpArgs false
/-- An alphabet of sets. -/
def IsA (S : List (List TRange)) (A : Talphabet_Alphabet) : Prop := ∃ like, LikeOk (prp S) like nB ∧ A = ⟨⟨like, firsts (blks (prp S) nB)⟩, cls S, lst S⟩
def inR (r : Int) : Prop := 0 ≤ r ∧ r ≤ 1114111
instance (r : Int) : Decidable (inR r) := inferInstanceAs (Decidable (_ ∧ _))
noncomputable def ofI (S : List (List TRange)) (r : Int) : Int := if inR r then (clsOf S r : Int) else -1
/-- What a list has at a place, or another. -/
def getZ (l : List Int) (c d : Int) : Int := if 0 ≤ c ∧ c < (l.length : Int) then l.getD c.toNat 0 else d
variable {S : List (List TRange)} {A : Talphabet_Alphabet}
theorem Of_eq (h : Good S) (hF : Fit S) (hA : IsA S A) (r : Int) : alphabet_Alphabet_Of A r = some (ofI S r) := by
  obtain ⟨like, hL, rfl⟩ := hA
  unfold alphabet_Alphabet_Of ofI
  by_cases hr : inR r
  · obtain ⟨h0, h1⟩ := hr
    rw [if_neg (by simp; omega), if_pos ⟨h0, h1⟩]
    simp only
    rw [nB_eq] at hL
    have hFb := hF.2
    have hT := TrieOf_eq (N := 4352) rfl hL (by rw [nB_eq] at hFb; exact hFb) h0 h1
    rw [nB_eq, hT, Option.bind_some, prp_val h h0 h1]
    have hlt := clsOf_lt h ⟨h0, h1⟩
    have hc := hF.1
    rw [UInt8.toNat_ofNat', Nat.mod_eq_of_lt (by omega), w64 (by omega) (by omega)]
  · rw [if_neg hr]
    unfold inR at hr
    rw [if_pos (by simp; omega)]
theorem Count_eq (hA : IsA S A) : alphabet_Alphabet_Count A = some ((cls S).length : Int) := by
  obtain ⟨like, hL, rfl⟩ := hA; rfl
theorem Mask_eq (hA : IsA S A) (c : Int) : alphabet_Alphabet_Mask A c = some (getZ (cls S) c 0) := by
  obtain ⟨like, hL, rfl⟩ := hA
  unfold alphabet_Alphabet_Mask alphabet_Alphabet_has getZ
  simp only [Option.bind_some]
  by_cases hc : 0 ≤ c ∧ c < ((cls S).length : Int)
  · rw [if_neg (by simp; omega), if_pos hc]
    unfold idx
    rw [if_neg (by omega), List.getElem?_eq_getElem (by omega), Option.bind_some, List.getD_eq_getElem?_getD, List.getElem?_eq_getElem (by omega)]; rfl
  · rw [if_pos (by simp; omega), if_neg hc]
theorem Any_eq (hA : IsA S A) (c : Int) : alphabet_Alphabet_Any A c = some (getZ (lst S) c (-1)) := by
  obtain ⟨like, hL, rfl⟩ := hA
  have hl := lst_len (S := S)
  unfold alphabet_Alphabet_Any alphabet_Alphabet_has getZ
  simp only [Option.bind_some]
  by_cases hc : 0 ≤ c ∧ c < ((lst S).length : Int)
  · rw [if_neg (by simp; omega), if_pos hc]
    unfold idx
    rw [if_neg (by omega), List.getElem?_eq_getElem (by omega), Option.bind_some, List.getD_eq_getElem?_getD, List.getElem?_eq_getElem (by omega)]; rfl
  · rw [if_pos (by simp; omega), if_neg hc]
/-- The reference's. -/
theorem rOf_eq (h : Good S) (hF : Fit S) (r : Int) : scansionref09_Alphabet_Of ⟨S, cls S, lst S⟩ r = some (ofI S r) := by
  unfold scansionref09_Alphabet_Of ofI
  by_cases hr : inR r
  · obtain ⟨h0, h1⟩ := hr
    have hm : scansionref09_mask S r = some (mkI S r) := refMask_eq (fun s hs => by have := (h.norm s hs).len; omega) h.few r
    have hc := hF.1
    have hf := find_eq (A := ⟨S, cls S, lst S⟩) (by show (cls S).length ≤ 1000; omega) (mkI S r)
    simp only at hf
    rw [if_neg (by simp; omega), if_pos ⟨h0, h1⟩]
    simp only
    rw [hm, Option.bind_some, hf, Option.bind_some, if_pos (mkI_mem h h0 h1)]; rfl
  · rw [if_neg hr]
    unfold inR at hr
    rw [if_pos (by simp; omega)]
theorem rMask_eq (c : Int) : scansionref09_Alphabet_Mask ⟨S, cls S, lst S⟩ c = some (getZ (cls S) c 0) := by
  unfold scansionref09_Alphabet_Mask getZ
  simp only
  by_cases hc : 0 ≤ c ∧ c < ((cls S).length : Int)
  · rw [if_neg (by simp; omega), if_pos hc]
    unfold idx
    rw [if_neg (by omega), List.getElem?_eq_getElem (by omega), Option.bind_some, List.getD_eq_getElem?_getD, List.getElem?_eq_getElem (by omega)]; rfl
  · rw [if_pos (by simp; omega), if_neg hc]
theorem rAny_eq (c : Int) : scansionref09_Alphabet_Any ⟨S, cls S, lst S⟩ c = some (getZ (lst S) c (-1)) := by
  have hl := lst_len (S := S)
  unfold scansionref09_Alphabet_Any getZ
  simp only
  by_cases hc : 0 ≤ c ∧ c < ((lst S).length : Int)
  · rw [if_neg (by simp; omega), if_pos hc]
    unfold idx
    rw [if_neg (by omega), List.getElem?_eq_getElem (by omega), Option.bind_some, List.getD_eq_getElem?_getD, List.getElem?_eq_getElem (by omega)]; rfl
  · rw [if_pos (by simp; omega), if_neg hc]
/-- New, of good sets. -/
theorem Same_self {a : List TRange} (hl : a.length < 9223372036854775807) : scansionref02_Same a a = some true := by rw [Same_eq hl]; simp
theorem New_good (h : Good S) : alphabet_New S = alphabet_New.k1 S := by
  unfold alphabet_New
  have hf := h.few
  rw [if_neg (by simp; omega)]
  have hrun := Loop_int (b := alphabet_New.b2 S) (i := 0) (n := S.length) (Nat.zero_le _) (fun j _ hj => by
    have hn := h.norm _ (List.getElem_mem hj)
    have hlen := hn.len
    have hsm : S[j].length ≤ S.flatten.length := by have := ed_len hj; omega
    have hs2 := h.small
    obtain ⟨out, e, m1, m2, m3, m4, m5, m6⟩ := Make_both (l := S[j]) (by omega)
    obtain ⟨e1, e2⟩ := Make_norm hn m3 m5 m6
    subst e1 e2
    simp only [alphabet_New.b2]
    rw [if_pos (by simpa using hj), idx_nat, List.getElem?_eq_getElem hj, Option.bind_some, m1, Option.bind_some, if_neg (by simp), Equal_same, Same_self (a := S[j]) (by omega), Option.bind_some, Option.bind_some, if_neg (by simp), w64s (by omega)])
  simp only [Int.ofNat_zero, Int.natCast_zero] at hrun
  rw [hrun]
  refine Loop_end ?_
  simp only [alphabet_New.b2]
  rw [if_neg (by simp)]
theorem rNew_good (h : Good S) : scansionref09_New S = scansionref09_New.k1 S := by
  unfold scansionref09_New
  have hf := h.few
  rw [if_neg (by simp; omega)]
  have hrun := Loop_int (b := scansionref09_New.b2 S) (i := 0) (n := S.length) (Nat.zero_le _) (fun j _ hj => by
    have hn := h.norm _ (List.getElem_mem hj)
    have hsm : S[j].length ≤ S.flatten.length := by have := ed_len hj; omega
    have hs2 := h.small
    obtain ⟨out, e, m1, m2, m3, m4, m5, m6⟩ := Make_both (l := S[j]) (by omega)
    obtain ⟨e1, e2⟩ := Make_norm hn m3 m5 m6
    subst e1 e2
    simp only [scansionref09_New.b2]
    rw [if_pos (by simpa using hj), idx_nat, List.getElem?_eq_getElem hj, Option.bind_some, m2, Option.bind_some, Same_self (a := S[j]) (by omega), Option.bind_some, if_neg (by simp), w64s (by omega)])
  simp only [Int.ofNat_zero, Int.natCast_zero] at hrun
  rw [hrun]
  refine Loop_end ?_
  simp only [scansionref09_New.b2]
  rw [if_neg (by simp)]
theorem New_fit (h : Good S) (hF : Fit S) : ∃ A, IsA S A ∧ alphabet_New S = some (some A, 0) := by
  obtain ⟨like, h1, h2⟩ := (New_k1 h).1 hF
  exact ⟨_, ⟨like, h1, rfl⟩, (New_good h).trans h2⟩
theorem New_unfit (h : Good S) (hF : ¬ Fit S) : alphabet_New S = some (none, 3) := (New_good h).trans ((New_k1 h).2 hF)
theorem rNew_fit (h : Good S) (hF : Fit S) : scansionref09_New S = some (some ⟨S, cls S, lst S⟩, 0) := by
  rw [rNew_good h, refNew_k1 h, if_pos hF]
theorem rNew_unfit (h : Good S) (hF : ¬ Fit S) : scansionref09_New S = some (none, 3) := by
  rw [rNew_good h, refNew_k1 h, if_neg hF]
theorem New_many (h : 60 < S.length) : alphabet_New S = some (none, 3) ∧ scansionref09_New S = some (none, 3) := by
  unfold alphabet_New scansionref09_New
  rw [if_pos (by simp; omega), if_pos (by simp; omega)]; exact ⟨rfl, rfl⟩
theorem New_bad (h : S.length ≤ 60) (hs : S.flatten.length ≤ 1200) (hb : ¬ ∀ s ∈ S, Norm s) : alphabet_New S = some (none, 1) ∧ scansionref09_New S = some (none, 1) := by
  have hex : ∃ j, j < S.length ∧ ¬ (∀ hj : j < S.length, Norm S[j]) := by
    refine Classical.byContradiction fun hc => hb fun s hs => ?_
    obtain ⟨j, hj, rfl⟩ := List.getElem_of_mem hs
    refine Classical.byContradiction fun hn => hc ⟨j, hj, fun hq => hn (hq hj)⟩
  obtain ⟨j, hj, hbad, hbefore⟩ := least_bad (P := fun j => ∀ hj : j < S.length, Norm S[j]) hex
  have hnj : ¬ Norm S[j] := fun hn => hbad fun _ => hn
  have hsm : ∀ i (hi : i < S.length), S[i].length ≤ 1200 := fun i hi => by have := ed_len hi; omega
  constructor
  · unfold alphabet_New
    rw [if_neg (by simp; omega)]
    have hrun := Loop_int (b := alphabet_New.b2 S) (i := 0) (n := j) (Nat.zero_le _) (fun i _ hi => by
      have hil : i < S.length := by omega
      have hn : Norm S[i] := hbefore i hi hil
      have hsi := hsm i hil
      obtain ⟨out, e, m1, m2, m3, m4, m5, m6⟩ := Make_both (l := S[i]) (by omega)
      obtain ⟨e1, e2⟩ := Make_norm hn m3 m5 m6
      subst e1 e2
      simp only [alphabet_New.b2]
      rw [if_pos (by simpa using hil), idx_nat, List.getElem?_eq_getElem hil, Option.bind_some, m1, Option.bind_some, if_neg (by simp), Equal_same, Same_self (a := S[i]) (by omega), Option.bind_some, Option.bind_some, if_neg (by simp), w64s (by omega)])
    simp only [Int.ofNat_zero, Int.natCast_zero] at hrun
    rw [hrun]
    refine Loop_done ?_
    have hsi := hsm j hj
    obtain ⟨out, e, m1, m2, m3, m4, m5, m6⟩ := Make_both (l := S[j]) (by omega)
    have hne : out ≠ S[j] := fun e => hnj (e ▸ m3)
    simp only [alphabet_New.b2]
    rw [if_pos (by simpa using hj), idx_nat, List.getElem?_eq_getElem hj, Option.bind_some, m1, Option.bind_some]
    by_cases he : e = 0
    · subst he
      rw [if_neg (by simp), Equal_same, Same_eq (a := out) (by omega), Option.bind_some, Option.bind_some, if_pos (by simp [hne])]
    · rw [if_pos (by simpa using he), Option.bind_some, if_pos rfl]
  · unfold scansionref09_New
    rw [if_neg (by simp; omega)]
    have hrun := Loop_int (b := scansionref09_New.b2 S) (i := 0) (n := j) (Nat.zero_le _) (fun i _ hi => by
      have hil : i < S.length := by omega
      have hn : Norm S[i] := hbefore i hi hil
      have hsi := hsm i hil
      obtain ⟨out, e, m1, m2, m3, m4, m5, m6⟩ := Make_both (l := S[i]) (by omega)
      obtain ⟨e1, e2⟩ := Make_norm hn m3 m5 m6
      subst e1 e2
      simp only [scansionref09_New.b2]
      rw [if_pos (by simpa using hil), idx_nat, List.getElem?_eq_getElem hil, Option.bind_some, m2, Option.bind_some, Same_self (a := S[i]) (by omega), Option.bind_some, if_neg (by simp), w64s (by omega)])
    simp only [Int.ofNat_zero, Int.natCast_zero] at hrun
    rw [hrun]
    refine Loop_done ?_
    have hsi := hsm j hj
    obtain ⟨out, e, m1, m2, m3, m4, m5, m6⟩ := Make_both (l := S[j]) (by omega)
    have hne : out ≠ S[j] := fun e => hnj (e ▸ m3)
    simp only [scansionref09_New.b2]
    rw [if_pos (by simpa using hj), idx_nat, List.getElem?_eq_getElem hj, Option.bind_some, m2, Option.bind_some, Same_eq (a := out) (by omega), Option.bind_some, if_pos (by simp [hne])]
end Go.Val

/- part R19 -/
/- Plain lemmas: the small thing works; lists that are few; the sets of lists. -/
namespace Go.Val
set_option linter.unusedVariables false
set_option linter.unusedSimpArgs false
def S0 : List (List TRange) := [[⟨97, 99⟩], [⟨98, 122⟩]]
theorem S0_good : Good S0 := by
  refine ⟨fun s hs => ?_, by decide, by decide⟩
  have : s = [⟨97, 99⟩] ∨ s = [⟨98, 122⟩] := by simpa [S0] using hs
  rcases this with rfl | rfl
  · exact ⟨fun x hx => by simp at hx; subst hx; unfold Ok; simp, List.pairwise_singleton _ _⟩
  · exact ⟨fun x hx => by simp at hx; subst hx; unfold Ok; simp, List.pairwise_singleton _ _⟩
theorem S0_edg : edg S0 = [0, 97, 98, 100, 123] := by
  refine rise_unique (edg_spec S0_good).2.2.1 (by decide) fun x => ?_
  rw [(edg_spec S0_good).2.2.2.1]
  show Edge [⟨97, 99⟩, ⟨98, 122⟩] x ↔ _
  unfold Edge
  simp only [List.mem_cons, List.not_mem_nil, or_false]
  constructor
  · rintro (h | ⟨y, rfl | rfl, h⟩)
    · exact .inl h
    · rcases h with h | ⟨_, h⟩
      · exact .inr (.inl h)
      · exact .inr (.inr (.inr (.inl h)))
    · rcases h with h | ⟨_, h⟩
      · exact .inr (.inr (.inl h))
      · exact .inr (.inr (.inr (.inr h)))
  · rintro (h | h | h | h | h)
    · exact .inl h
    · exact .inr ⟨_, .inl rfl, .inl h⟩
    · exact .inr ⟨_, .inr rfl, .inl h⟩
    · exact .inr ⟨_, .inl rfl, .inr ⟨by decide, h⟩⟩
    · exact .inr ⟨_, .inr rfl, .inr ⟨by decide, h⟩⟩
theorem S0_cls : cls S0 = [0, 1, 3, 2] := by unfold cls; rw [S0_edg]; decide
theorem S0_lst : lst S0 = [0, 97, 98, 100] := by unfold lst; rw [S0_edg]; decide
theorem S0_far {r : Int} (h : 123 ≤ r) : mkI S0 r = 0 := by
  have h1 : hasB [⟨97, 99⟩] r = false := by unfold hasB; simp; omega
  have h2 : hasB [⟨98, 122⟩] r = false := by unfold hasB; simp; omega
  show ((0 + (if hasB [⟨97, 99⟩] r then 2 ^ 0 else 0) + (if hasB [⟨98, 122⟩] r then 2 ^ 1 else 0) : Nat) : Int) = 0
  rw [h1, h2]; rfl
theorem S0_block {k : Nat} (h1 : 1 ≤ k) (hk : k < 4352) : blockOf (prp S0) k = blockOf (prp S0) 1 := by
  apply Vector.toList_inj.1
  apply List.ext_getElem?
  intro j
  by_cases hj : j < 256
  · rw [blockOf_val S0_good hk hj, blockOf_val S0_good (by omega) hj]
    unfold clsOf
    rw [S0_far (by omega), S0_far (by omega)]
  · rw [List.getElem?_eq_none (by rw [Vector.length_toList]; omega), List.getElem?_eq_none (by rw [Vector.length_toList]; omega)]
theorem S0_blks {N : Nat} (hN : N = 4352) : (firsts (blks (prp S0) N)).length ≤ 256 := by
  have : (firsts (blks (prp S0) N)).length ≤ [blockOf (prp S0) 0, blockOf (prp S0) 1].length := nodup_sub_len nodup_firsts fun x hx => by
    rw [mem_firsts] at hx
    unfold blks at hx
    obtain ⟨k, hk, rfl⟩ := List.mem_map.1 hx
    have hk := List.mem_range.1 hk
    rcases Nat.eq_zero_or_pos k with h0 | h0
    · subst h0; simp
    · rw [S0_block h0 (by omega)]; simp
  exact Nat.le_trans this (by simp)
theorem S0_fit : Fit S0 := ⟨by rw [S0_cls]; decide, S0_blks nB_eq⟩
theorem awake9 : scansionlaw09_awake = some true := by
  obtain ⟨A, hA, hN⟩ := New_fit S0_good S0_fit
  have h2 : ofI S0 99 = 2 := by
    unfold ofI clsOf
    rw [if_pos (by decide), S0_cls]; decide
  unfold scansionlaw09_awake
  rw [show ([[(TRange.mk (97 : Int) (99 : Int))], [(TRange.mk (98 : Int) (122 : Int))]] : List (List TRange)) = S0 from rfl, hN, Option.bind_some]
  simp only
  rw [Count_eq hA, S0_cls, Option.bind_some, Of_eq S0_good S0_fit hA, h2, Option.bind_some, Mask_eq hA, S0_cls, Option.bind_some, Any_eq hA, S0_lst, Option.bind_some]
  rfl
/-- Lists that are few. -/
structure Few (l : List (List TRange)) : Prop where
  many : l.length ≤ 101
  each : ∀ s ∈ l, s.length ≤ 300
  all : l.flatten.length ≤ 1200
theorem few_eq (l : List (List TRange)) : ∃ b, scansionlaw09_few l = some b ∧ (b = true → Few l) := by
  refine Loop_spec (body := scansionlaw09_few.b1 l) (Q := fun b => b = true → Few l) (fun p : Int × Int => ∃ k : Nat, p.2 = (k : Int) ∧ k ≤ l.length ∧ k ≤ 101 ∧ p.1 = ((l.take k).flatten.length : Int) ∧ ∀ s ∈ l.take k, s.length ≤ 300) (fun p => l.length - p.2.toNat) (fun p hp => ?_) _ ⟨0, rfl, Nat.zero_le _, by omega, by simp, by simp⟩
  obtain ⟨n, v⟩ := p
  obtain ⟨k, e, hk, hk2, hn, ha⟩ := hp
  simp only at e hn
  subst e hn
  have hbound : (l.take k).flatten.length ≤ 300 * k := by
    have : ∀ m : List (List TRange), (∀ s ∈ m, s.length ≤ 300) → m.flatten.length ≤ 300 * m.length := by
      intro m
      induction m with
      | nil => simp
      | cons a m ih =>
        intro h
        have h1 := h a (by simp)
        have h2 := ih fun s hs => h s (by simp [hs])
        rw [List.flatten_cons, List.length_append, List.length_cons]; omega
    have h3 := this _ ha
    rw [List.length_take] at h3; omega
  by_cases hl : k < l.length
  · by_cases hb : 100 < k
    · right
      refine ⟨false, ?_, by simp⟩
      simp only [scansionlaw09_few.b1]
      rw [if_pos (by simpa using hl), if_pos (decide_eq_true (by omega)), Option.bind_some, if_pos rfl]
    · by_cases hs : 300 < l[k].length
      · right
        refine ⟨false, ?_, by simp⟩
        simp only [scansionlaw09_few.b1]
        rw [if_pos (by simpa using hl), if_neg (by simp; omega), idx_nat, List.getElem?_eq_getElem hl, Option.bind_some, Option.bind_some, if_pos (decide_eq_true (by omega))]
      · left
        refine ⟨(((l.take (k + 1)).flatten.length : Int), ((k + 1 : Nat) : Int)), ?_, ⟨k + 1, rfl, hl, by omega, rfl, fun s hs2 => ?_⟩, by simp only; omega⟩
        · simp only [scansionlaw09_few.b1]
          rw [if_pos (by simpa using hl), if_neg (by simp; omega), idx_nat, List.getElem?_eq_getElem hl, Option.bind_some, Option.bind_some, if_neg (by simp; omega), Option.bind_some, w64 (by omega) (by omega), w64s (by omega), flat_snoc hl, List.length_append]
          rfl
        · rw [take_snocP hl] at hs2
          rcases List.mem_append.1 hs2 with h | h
          · exact ha s h
          · simp at h; subst h; omega
  · right
    have e : k = l.length := by omega
    subst e
    rw [List.take_length] at ha hbound ⊢
    refine ⟨decide (((l.flatten.length : Nat) : Int) ≤ 1200), ?_, fun h => ⟨hk2, ha, by have := of_decide_eq_true h; omega⟩⟩
    simp only [scansionlaw09_few.b1]
    rw [if_neg (by simp)]; rfl
/-- The sets of lists. -/
structure SetsOf (l S : List (List TRange)) : Prop where
  norm : ∀ s ∈ S, Norm s
  len : S.length = l.length
  all : S.flatten.length ≤ l.flatten.length
theorem SetsOf.good {l S : List (List TRange)} (h : SetsOf l S) (hf : Few l) (h60 : S.length ≤ 60) : Good S := ⟨h.norm, h60, Nat.le_trans h.all hf.all⟩
end Go.Val

/- part R21 -/
/- Plain lemmas: sets in another order; a set less. -/
namespace Go.Val
set_option linter.unusedVariables false
set_option linter.unusedSimpArgs false
theorem Good.less {S T : List (List TRange)} (h : Good S) (hs : ∀ s ∈ T, s ∈ S) (hl : T.length ≤ S.length) (hf : T.flatten.length ≤ S.flatten.length) : Good T := ⟨fun s hs2 => h.norm s (hs s hs2), Nat.le_trans hl h.few, Nat.le_trans hf h.small⟩
end Go.Val

/- part R22 -/
/- Plain lemmas: the alphabet of any lists; the masks of any numbers. -/
namespace Go.Val
set_option linter.unusedVariables false
set_option linter.unusedSimpArgs false
theorem Same9_self {a : List Int} (hl : a.length ≤ 1000000) : scansionref09_Same a a = some true := by
  unfold scansionref09_Same
  rw [if_neg (by simp)]
  have hrun := Loop_int (b := scansionref09_Same.b1 a a) (i := 0) (n := a.length) (Nat.zero_le _) (fun j _ hj => by
    simp only [scansionref09_Same.b1]
    rw [if_pos (by simpa using hj), idx_nat, List.getElem?_eq_getElem hj, Option.bind_some, Option.bind_some, if_neg (by simp), w64s (by omega)])
  simp only [Int.ofNat_zero, Int.natCast_zero] at hrun
  rw [hrun]
  refine Loop_end (R := some true) ?_
  simp only [scansionref09_Same.b1]
  rw [if_neg (by simp)]; rfl
theorem Loop_to {ρ : Type} {b : Int → Option (Step Int ρ)} {R : Option ρ} (n : Nat) (h : ∀ j : Nat, j < n → b (j : Int) = some (.next ((j + 1 : Nat) : Int)) ∨ b (j : Int) = R.map Step.done) (he : b (n : Int) = R.map Step.done) : Loop b 0 = R := by
  have key : ∀ d k : Nat, k + d = n → Loop b (k : Int) = R := by
    intro d
    induction d with
    | zero => intro k hk; obtain rfl : k = n := by omega
              exact Loop_end he
    | succ d ih =>
      intro k hk
      rcases h k (by omega) with q | q
      · rw [Loop_next q]; exact ih (k + 1) (by omega)
      · exact Loop_end q
  exact key n 0 (by omega)
theorem news_fit {l : List (List TRange)} (hG : Good l) (hF : Fit l) {A : Talphabet_Alphabet} (hA : IsA l A) (r : List Int) : Loop (scansionlaw09_AlphabetNews.b2 r A ⟨l, cls l, lst l⟩) 0 = some true := by
  have hc := hF.1
  have hend : scansionlaw09_AlphabetNews.k2 A ⟨l, cls l, lst l⟩ = some true := by
    unfold scansionlaw09_AlphabetNews.k2
    have hcr : scansionref09_Alphabet_Count ⟨l, cls l, lst l⟩ = some ((cls l).length : Int) := rfl
    rw [Count_eq hA, Option.bind_some, hcr, Option.bind_some, if_pos (by simp)]
    have hm : alphabet_Alphabet_Masks A = some (cls l) := by
      obtain ⟨like, hL, rfl⟩ := hA
      unfold alphabet_Alphabet_Masks slices_Clone_uint64_uint64
      simp only
      rw [room_ok (by omega)]; rfl
    rw [hm, Option.bind_some]
    simp only
    rw [Same9_self (by omega)]; rfl
  have hstop : ∀ j : Int, ¬ (j < (r.length : Int) ∧ j < 100) → scansionlaw09_AlphabetNews.b2 r A ⟨l, cls l, lst l⟩ j = (some true).map Step.done := fun j hj => by
    simp only [scansionlaw09_AlphabetNews.b2]
    rw [if_neg (by simpa using hj), hend]
  refine Loop_to r.length (fun j hj => ?_) (hstop _ (by omega))
  by_cases h100 : j < 100
  · left
    simp only [scansionlaw09_AlphabetNews.b2]
    have hc : (decide ((j : Int) < (r.length : Int)) && decide ((j : Int) < 100)) = true := by rw [decide_eq_true (by omega), decide_eq_true (by omega)]; rfl
    rw [if_pos hc, idx_nat, List.getElem?_eq_getElem hj, Option.bind_some, Of_eq hG hF hA, Option.bind_some, rOf_eq hG hF, Option.bind_some, if_neg (by simp), Mask_eq hA, Option.bind_some, rMask_eq, Option.bind_some, if_neg (by simp), Any_eq hA, Option.bind_some, rAny_eq, Option.bind_some, Option.bind_some, if_neg (by simp), w64s (by omega)]
  · right
    exact hstop _ (by omega)
theorem AlphabetNews_of (l : List (List TRange)) (r : List Int) : scansionlaw09_AlphabetNews l r = some true := by
  obtain ⟨b, hb, hF⟩ := few_eq l
  unfold scansionlaw09_AlphabetNews
  rw [awake9, Option.bind_some, hb, Option.bind_some]
  cases b with
  | false => simp
  | true =>
    have hfew := hF rfl
    rw [if_neg (by simp)]
    have hu : Loop scansionlaw09_AlphabetNews.b1 () = some true := Loop_end rfl
    by_cases h60 : l.length ≤ 60
    · by_cases hn : ∀ s ∈ l, Norm s
      · have hG : Good l := ⟨hn, h60, hfew.all⟩
        by_cases hfit : Fit l
        · obtain ⟨A, hA, hN⟩ := New_fit hG hfit
          rw [hN, Option.bind_some]
          simp only
          rw [rNew_fit hG hfit, Option.bind_some]
          simp only
          rw [if_neg (by simp)]
          exact news_fit hG hfit hA r
        · rw [New_unfit hG hfit, Option.bind_some]
          simp only
          rw [rNew_unfit hG hfit, Option.bind_some]
          simp only
          rw [if_neg (by simp), hu]
      · obtain ⟨h1, h2⟩ := New_bad h60 hfew.all hn
        rw [h1, Option.bind_some]
        simp only
        rw [h2, Option.bind_some]
        simp only
        rw [if_neg (by simp), hu]
    · obtain ⟨h1, h2⟩ := New_many (S := l) (by omega)
      rw [h1, Option.bind_some]
      simp only
      rw [h2, Option.bind_some]
      simp only
      rw [if_neg (by simp), hu]
end Go.Val
