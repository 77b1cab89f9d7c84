/- A value semantics of the model's programs, sound against it, and functions read off the given program with the proofs that it runs so; no condition. -/
import Derived.Test.YtobjdbpikecnnaaOwnE
set_option linter.all false
set_option linter.unnecessarySimpa false
set_option linter.unusedVariables false
set_option linter.unusedSimpArgs false
/- part P9 -/
/- Plain lemmas: Word of both. -/
namespace Go.Val
set_option linter.unusedVariables false
theorem cnt_sum {g : TGraph} (hr : RightP g) {s : Nat} {f : Bool} {xs : List TEdge} (h1 : g.Final[s]? = some f) (h2 : g.Edges[s]? = some xs) : (counts (rowsOf g)).getD s 0 = mn (sumTo (counts (rowsOf g)) (if f then 1 else 0) xs) cap := by
  have hl := rows_len hr.len
  have hlt := (List.getElem?_eq_some_iff.1 h2).1
  have hlf := hr.len
  have hrow := hr.rows s hlt xs h2
  have hpre := counts_bound ((rowsOf g).take s)
  have e0 : counts ((rowsOf g).take (s + 1)) = (counts (rowsOf g)).take (s + 1) := counts_take _ _
  have e := congrArg (fun l => l[s]?) (counts_next h1 h2)
  simp only [e0, List.getElem?_take] at e
  rw [if_pos (by omega)] at e
  have hll : (counts ((rowsOf g).take s)).length = s := by rw [counts_len, List.length_take]; omega
  rw [List.getElem?_append_right (by omega), hll, Nat.sub_self] at e
  rw [List.getD_eq_getElem?_getD, e]
  show crow _ _ xs = _
  rw [crow_sum hpre (by split <;> omega) (by split <;> omega)]
  congr 1
  exact sumTo_congr fun x hx => by
    obtain ⟨k, hk⟩ := List.getElem?_of_mem hx
    have hok := hrow k (List.getElem?_eq_some_iff.1 hk).1 _ hk
    rw [counts_take, List.getD_eq_getElem?_getD, List.getD_eq_getElem?_getD, List.getElem?_take, if_pos (by omega)]
/-- The edge that holds word number n of a row, and the number left. -/
def pick (cs : List Int) : Int → List TEdge → Option (Int × TEdge)
  | n, [] => none
  | n, x :: xs => if n < cs.getD x.To.toNat 0 then some (n, x) else pick cs (n - cs.getD x.To.toNat 0) xs
theorem pick_none {cs : List Int} : ∀ {xs : List TEdge} {n a : Int}, pick cs n xs = none → 0 ≤ n → sumTo cs a xs ≤ a + n
  | [], n, a, h, h0 => by simp [sumTo]; omega
  | x :: xs, n, a, h, h0 => by
    unfold pick at h
    split at h
    · cases h
    · have := pick_none (a := a + cs.getD x.To.toNat 0) h (by omega)
      have e : sumTo cs a (x :: xs) = sumTo cs (a + cs.getD x.To.toNat 0) xs := rfl
      rw [e]; omega
theorem pick_some {cs : List Int} (hc : ∀ c ∈ cs, 0 ≤ c ∧ c ≤ cap) : ∀ {xs : List TEdge} {n m : Int} {x : TEdge}, pick cs n xs = some (m, x) → 0 ≤ n → 0 ≤ m ∧ m ≤ n ∧ m < cs.getD x.To.toNat 0 ∧ x ∈ xs
  | [], n, m, x, h, h0 => by simp [pick] at h
  | y :: xs, n, m, x, h, h0 => by
    unfold pick at h
    split at h
    · injection h with h; injection h with h1 h2; subst h1 h2; exact ⟨h0, by omega, by assumption, by simp⟩
    · have := pick_some hc h (by omega)
      have := getD_bound hc y.To.toNat
      refine ⟨by omega, by omega, by omega, by simp [*]⟩
theorem drop_at {α : Type} {xs ys : List α} {x : α} {k : Nat} (h : xs.drop k = x :: ys) : xs[k]? = some x ∧ xs.drop (k + 1) = ys ∧ k < xs.length := by
  have h1 : (xs.drop k)[0]? = some x := by rw [h]; rfl
  rw [List.getElem?_drop, Nat.add_zero] at h1
  refine ⟨h1, ?_, (List.getElem?_eq_some_iff.1 h1).1⟩
  rw [← List.tail_drop, h]; rfl
theorem dawg_word_row {g : TGraph} (hr : RightP g) {s : Int} (h0 : 0 ≤ s) (h1 : s < g.Final.length) {xs : List TEdge} (hx : g.Edges[s.toNat]? = some xs) (hl : xs.length ≤ 300) {word : List UInt8} (hw : word.length ≤ 1000000) {m : Int} {x : TEdge} (e : Int) : ∀ (ys : List TEdge) (k : Nat) (n : Int), xs.drop k = ys → 0 ≤ n → n ≤ cap → pick (counts (rowsOf g)) n ys = some (m, x) →
    Loop (dawg_Word.b2 (counts (rowsOf g), e) s word xs) (n, (k : Int)) = some (.next (m, x.To, word ++ [x.Label]))
  | [], k, n, hd, n0, n1, hp => by simp [pick] at hp
  | y :: ys, k, n, hd, n0, n1, hp => by
    obtain ⟨hk, hd2, hlt⟩ := drop_at hd
    have hok := row_ok hr h0 h1 hx hk
    have hcb := counts_bound (rowsOf g)
    have hg := getD_bound hcb y.To.toNat
    unfold pick at hp
    by_cases h : n < (counts (rowsOf g)).getD y.To.toNat 0
    · rw [if_pos h] at hp
      injection hp with hp; injection hp with hp1 hp2; subst hp1 hp2
      apply Loop_end
      rw [dawg_Word.b2, if_pos (by rw [decide_eq_true_eq]; omega), idx_nat, hk, Option.bind_some, cnt_at hr hok.1 (by omega), Option.bind_some, if_pos (by rw [decide_eq_true_eq]; omega), room_ok (by omega), Option.bind_some]
      rfl
    · rw [if_neg h] at hp
      unfold cap at hg n1
      rw [← dawg_word_row hr h0 h1 hx hl hw e ys (k + 1) (n - (counts (rowsOf g)).getD y.To.toNat 0) hd2 (by omega) (by unfold cap; omega) hp]
      apply Loop_next
      rw [dawg_Word.b2, if_pos (by rw [decide_eq_true_eq]; omega), idx_nat, hk, Option.bind_some, cnt_at hr hok.1 (by omega), Option.bind_some, if_neg (by rw [decide_eq_true_eq]; omega), w64 (by omega) (by omega), w64s (by omega)]
theorem ref_word_row {g : TGraph} (hr : RightP g) {s : Int} (h0 : 0 ≤ s) (h1 : s < g.Final.length) {xs : List TEdge} (hx : g.Edges[s.toNat]? = some xs) (hl : xs.length ≤ 300) {word : Str} (hw : word.length ≤ 1000000) {m : Int} {x : TEdge} (e : Int) : ∀ (ys : List TEdge) (k : Nat) (n : Int), xs.drop k = ys → 0 ≤ n → n ≤ cap → pick (counts (rowsOf g)) n ys = some (m, x) →
    Loop (scansionref17_Word.b2 g (counts (rowsOf g), e) s word) (n, (k : Int)) = some (.next (m, x.To, word ++ [x.Label]))
  | [], k, n, hd, n0, n1, hp => by simp [pick] at hp
  | y :: ys, k, n, hd, n0, n1, hp => by
    obtain ⟨hk, hd2, hlt⟩ := drop_at hd
    have hok := row_ok hr h0 h1 hx hk
    have hcb := counts_bound (rowsOf g)
    have hg := getD_bound hcb y.To.toNat
    have hi : idx g.Edges s = some xs := idx_some h0 hx
    unfold pick at hp
    by_cases h : n < (counts (rowsOf g)).getD y.To.toNat 0
    · rw [if_pos h] at hp
      injection hp with hp; injection hp with hp1 hp2; subst hp1 hp2
      apply Loop_end
      rw [scansionref17_Word.b2, hi, Option.bind_some, idx_nat, hk, Option.bind_some, cnt_at hr hok.1 (by omega), Option.bind_some, if_neg (by rw [decide_eq_true_eq]; omega)]
      unfold scansionref17_Word.k3 scansionref17_Word.k1
      rw [hi, Option.bind_some, idx_nat, hk, Option.bind_some, roomS_ok (by omega), Option.bind_some]
    · rw [if_neg h] at hp
      unfold cap at hg n1
      rw [← ref_word_row hr h0 h1 hx hl hw e ys (k + 1) (n - (counts (rowsOf g)).getD y.To.toNat 0) hd2 (by omega) (by unfold cap; omega) hp]
      apply Loop_next
      rw [scansionref17_Word.b2, hi, Option.bind_some, idx_nat, hk, Option.bind_some, cnt_at hr hok.1 (by omega), Option.bind_some, if_pos (by rw [decide_eq_true_eq]; omega), w64 (by omega) (by omega), w64s (by omega)]
/-- From a state that holds more than n words, both spell the same word. -/
theorem word_run {g : TGraph} (hr : RightP g) (h3 : Rows300 g) (e : Int) : ∀ (N : Nat) (s n : Int) (word : Str), s.toNat ≤ N → 0 ≤ s → s < g.Final.length → 0 ≤ n → n < (counts (rowsOf g)).getD s.toNat 0 → word.length + N ≤ 100000 →
    ∃ r : Str, Loop (dawg_Word.b1 g (counts (rowsOf g), e)) (n, s, word) = some (r, 0) ∧ Loop (scansionref17_Word.b1 g (counts (rowsOf g), e)) (n, s, word) = some (r, 0) := by
  intro N
  induction N with
  | zero =>
    intro s n word hN h0 h1 n0 n1 hw
    obtain ⟨xs, hi, hx, hm⟩ := row_at hr h0 h1
    obtain ⟨f, hf1, hf2⟩ := final_at h0 h1
    have hs := cnt_sum hr hf2 hx
    rw [hs] at n1
    cases xs with
    | cons x l => have := row_ok hr h0 h1 hx (x := x) (k := 0) rfl; omega
    | nil =>
      cases f with
      | false => simp [sumTo, mn, cap] at n1; omega
      | true =>
        have : n = 0 := by simp [sumTo, mn, cap] at n1; omega
        subst this
        refine ⟨word, Loop_done ?_, Loop_done ?_⟩
        · rw [dawg_Word.b1, hf1]; rfl
        · rw [scansionref17_Word.b1, hf1]; rfl
  | succ N ih =>
    intro s n word hN h0 h1 n0 n1 hw
    obtain ⟨xs, hi, hx, hm⟩ := row_at hr h0 h1
    obtain ⟨f, hf1, hf2⟩ := final_at h0 h1
    have hs := cnt_sum hr hf2 hx
    have hcb := counts_bound (rowsOf g)
    have hg := getD_bound hcb s.toNat
    rw [hs] at n1
    have hn2 : n < sumTo (counts (rowsOf g)) (if f then 1 else 0) xs := Int.lt_of_lt_of_le n1 mn_le.2
    have hcap : n < cap := Int.lt_of_lt_of_le n1 mn_le.1
    have go : ∀ n' : Int, 0 ≤ n' → n' ≤ n → (if f then 1 else 0) + n' ≤ n → ∃ r : Str, ((dawg_Word.k2 g (counts (rowsOf g), e) s word n').bind fun st => match st with | .next st => Loop (dawg_Word.b1 g (counts (rowsOf g), e)) st | .done r => some r) = some (r, 0) ∧ ((scansionref17_Word.k2 g (counts (rowsOf g), e) s word n').bind fun st => match st with | .next st => Loop (scansionref17_Word.b1 g (counts (rowsOf g), e)) st | .done r => some r) = some (r, 0) ∧ ∃ st, dawg_Word.k2 g (counts (rowsOf g), e) s word n' = some (.next st) ∧ scansionref17_Word.k2 g (counts (rowsOf g), e) s word n' = some (.next st) := fun n' p0 p1 p2 => by
      cases hp : pick (counts (rowsOf g)) n' xs with
      | none => have := pick_none (a := if f then 1 else 0) hp p0; omega
      | some mx =>
        obtain ⟨m, x⟩ := mx
        obtain ⟨q0, q1, q2, q3⟩ := pick_some hcb hp p0
        obtain ⟨k, hk⟩ := List.getElem?_of_mem q3
        have hok := row_ok hr h0 h1 hx hk
        have hd := dawg_word_row hr h0 h1 hx (h3 xs hm) (word := word) (by omega) e xs 0 n' rfl p0 (by omega) hp
        have hf := ref_word_row hr h0 h1 hx (h3 xs hm) (word := word) (by omega) e xs 0 n' rfl p0 (by omega) hp
        obtain ⟨r, r1, r2⟩ := ih x.To m (word ++ [x.Label]) (by omega) hok.1 (by omega) q0 q2 (by simp; omega)
        have e1 : dawg_Word.k2 g (counts (rowsOf g), e) s word n' = some (.next (m, x.To, word ++ [x.Label])) := by
          unfold dawg_Word.k2; rw [hi, Option.bind_some]; exact hd
        have e2 : scansionref17_Word.k2 g (counts (rowsOf g), e) s word n' = some (.next (m, x.To, word ++ [x.Label])) := by
          unfold scansionref17_Word.k2; exact hf
        refine ⟨r, ?_, ?_, _, e1, e2⟩
        · rw [e1]; exact r1
        · rw [e2]; exact r2
    have fin : ∀ n' : Int, 0 ≤ n' → n' ≤ n → (if f then 1 else 0) + n' ≤ n → dawg_Word.b1 g (counts (rowsOf g), e) (n, s, word) = dawg_Word.k2 g (counts (rowsOf g), e) s word n' → scansionref17_Word.b1 g (counts (rowsOf g), e) (n, s, word) = scansionref17_Word.k2 g (counts (rowsOf g), e) s word n' → ∃ r : Str, Loop (dawg_Word.b1 g (counts (rowsOf g), e)) (n, s, word) = some (r, 0) ∧ Loop (scansionref17_Word.b1 g (counts (rowsOf g), e)) (n, s, word) = some (r, 0) := fun n' p0 p1 p2 e1 e2 => by
      obtain ⟨r, r1, r2, st, s1, s2⟩ := go n' p0 p1 p2
      rw [s1] at r1 e1
      rw [s2] at r2 e2
      exact ⟨r, by rw [Loop_next e1]; exact r1, by rw [Loop_next e2]; exact r2⟩
    cases f with
    | false =>
      refine fin n n0 (Int.le_refl _) (by simp) ?_ ?_
      · rw [dawg_Word.b1, hf1]; rfl
      · rw [scansionref17_Word.b1, hf1]; rfl
    | true =>
      by_cases hz : n = 0
      · subst hz
        refine ⟨word, Loop_done ?_, Loop_done ?_⟩
        · rw [dawg_Word.b1, hf1]; rfl
        · rw [scansionref17_Word.b1, hf1]; rfl
      · unfold cap at hcap
        refine fin (n - 1) (by omega) (by omega) (by simp; omega) ?_ ?_
        · rw [dawg_Word.b1, hf1, Option.bind_some, if_pos rfl, if_neg (by simpa using hz), w64 (by omega) (by omega)]
        · rw [scansionref17_Word.b1, hf1, Option.bind_some, if_pos rfl, if_neg (by simpa using hz), w64 (by omega) (by omega)]
/-- Word of both. -/
theorem Word_eq {g : TGraph} (hs : Short g) (h3 : Rows300 g) (hr : RightP g) (n : Int) : ∃ r, dawg_Word g n = some r ∧ scansionref17_Word g n = some r := by
  have hlen : (counts (rowsOf g)).length = g.Final.length := by rw [counts_len, rows_len hr.len]
  have hst0 : 0 ≤ (g.Final.length : Int) - 1 := by have := hr.lo; omega
  have hst1 : (g.Final.length : Int) - 1 < g.Final.length := by omega
  have D := dawg_Count_eq hs hr
  have R := ref_Count_eq hs hr
  by_cases hn : n < 0
  · refine ⟨([], 4), ?_, ?_⟩
    · unfold dawg_Word; rw [D, Option.bind_some, if_neg (by simp), if_pos (by rw [decide_eq_true_eq]; exact hn)]; rfl
    · unfold scansionref17_Word; rw [R, Option.bind_some, if_neg (by simp), if_pos (by rw [decide_eq_true_eq]; exact hn)]; rfl
  · have hn' : ¬ (decide (n < 0) = true) := by rw [decide_eq_true_eq]; exact hn
    by_cases hb : n ≥ (counts (rowsOf g)).getD ((g.Final.length : Int) - 1).toNat 0
    · have hb' : decide (n ≥ (counts (rowsOf g)).getD ((g.Final.length : Int) - 1).toNat 0) = true := by rw [decide_eq_true_eq]; exact hb
      refine ⟨([], 4), ?_, ?_⟩
      · unfold dawg_Word; rw [D, Option.bind_some, if_neg (by simp), if_neg hn']; simp only [hlen]; rw [start_w hr, cnt_at hr hst0 hst1, Option.bind_some, Option.bind_some, if_pos hb']
      · unfold scansionref17_Word; rw [R, Option.bind_some, if_neg (by simp), if_neg hn']; rw [start_w hr]; dsimp only; rw [cnt_at hr hst0 hst1, Option.bind_some, Option.bind_some, if_pos hb']
    · have hb' : ¬ (decide (n ≥ (counts (rowsOf g)).getD ((g.Final.length : Int) - 1).toNat 0) = true) := by rw [decide_eq_true_eq]; exact hb
      obtain ⟨r, r1, r2⟩ := word_run hr h3 0 65536 ((g.Final.length : Int) - 1) n [] (by have := hr.hi; omega) hst0 hst1 (by omega) (by omega) (by simp)
      refine ⟨(r, 0), ?_, ?_⟩
      · unfold dawg_Word; rw [D, Option.bind_some, if_neg (by simp), if_neg hn']; simp only [hlen]; rw [start_w hr, cnt_at hr hst0 hst1, Option.bind_some, Option.bind_some, if_neg hb']; exact r1
      · unfold scansionref17_Word; rw [R, Option.bind_some, if_neg (by simp), if_neg hn']; rw [start_w hr]; dsimp only; rw [cnt_at hr hst0 hst1, Option.bind_some, Option.bind_some, if_neg hb']; exact r2
theorem Same_ok {cs : List Int} (hl : cs.length ≤ 1000000) : scansionref01_SameInts cs cs = some true := by
  unfold scansionref01_SameInts
  rw [if_neg (by simp)]
  have := Loop_int (b := scansionref01_SameInts.b1 cs cs) (i := 0) (n := cs.length) (Nat.zero_le _) (fun j _ hj => by
    have hj1 : cs[j]? = some cs[j] := List.getElem?_eq_getElem hj
    rw [scansionref01_SameInts.b1, if_pos (by rw [decide_eq_true_eq]; omega), idx_nat, hj1, Option.bind_some, Option.bind_some, if_neg (by simp), w64s (by omega)])
  rw [show ((0 : Nat) : Int) = 0 from rfl] at this
  rw [this]
  apply Loop_end
  rw [scansionref01_SameInts.b1, if_neg (by simp)]
  rfl
theorem bad_all {g : TGraph} (hs : Short g) (hr : ¬ RightP g) (w : Str) (n : Int) : dawg_Number g w = some (0, 1) ∧ scansionref17_Number g w = some (0, 1) ∧ dawg_Word g n = some ([], 1) ∧ scansionref17_Word g n = some ([], 1) := by
  unfold dawg_Number scansionref17_Number dawg_Word scansionref17_Word
  rw [dawg_Count_bad hs hr, ref_Count_bad hs hr]
  exact ⟨rfl, rfl, rfl, rfl⟩
theorem DawgAsks_of (haw : scansionlaw17_awake = some true) (g : TGraph) (w : Str) (n : Int) : scansionlaw17_DawgAsks g w n = some true := by
  unfold scansionlaw17_DawgAsks
  obtain ⟨b, hb, hfew⟩ := Few_eq g 60 (by omega)
  rw [haw, Option.bind_some, show (60 : Int) = ((60 : Nat) : Int) from rfl, hb, Option.bind_some]
  cases b with
  | false => rfl
  | true =>
    obtain ⟨f1, f2, f3⟩ := hfew rfl
    have hs : Short g := fun xs hx => by have := f3 xs hx; omega
    by_cases hw : w.length ≤ 100
    · rw [if_neg (by simp; omega)]
      by_cases hr : RightP g
      · have hlen : (counts (rowsOf g)).length = g.Final.length := by rw [counts_len, rows_len hr.len]
        obtain ⟨r, w1, w2⟩ := Word_eq hs f3 hr n
        rw [dawg_Count_eq hs hr, ref_Count_eq hs hr, Option.bind_some, Option.bind_some]
        dsimp only
        rw [Same_ok (by omega), dawg_Right_eq hs, ref_Right_eq hs, dawg_Has_eq hs hr (by omega), ref_Has_eq hs hr (by omega), dawg_Number_eq hs f3 hr hw, ref_Number_eq hs f3 hr hw, w1, w2]
        have hst0 : 0 ≤ (g.Final.length : Int) - 1 := by have := hr.lo; omega
        simp only [hlen, start_w hr]
        rw [cnt_at hr hst0 (by omega)]
        simp
      · obtain ⟨b1, b2, b3, b4⟩ := bad_all hs hr w n
        rw [dawg_Count_bad hs hr, ref_Count_bad hs hr, Option.bind_some, Option.bind_some]
        dsimp only
        rw [Same_ok (by simp), dawg_Right_eq hs, ref_Right_eq hs, dawg_Has_bad hs hr, ref_Has_bad hs hr, b1, b2, b3, b4]
        simp
    · rw [if_pos (by simp; omega)]
end Go.Val
