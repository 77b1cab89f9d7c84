/- A value semantics of the model's programs, sound against it, and functions read off the given program with the proofs that it runs so; no condition. -/
import Derived.Test.YtobjdbpikecnnaaOwnE
set_option linter.all false
set_option linter.unnecessarySimpa false
set_option linter.unusedVariables false
set_option linter.unusedSimpArgs false
/- part P18 -/
/- Plain lemmas: the reference looks for a set of ends. -/
namespace Go.Val
set_option linter.unusedVariables false
theorem maker_look {self : Tscansionref17_maker → (List Str) → Option ((Int × Tscansionref17_maker))} {m : Tscansionref17_maker} {e : List Str} {r : Str} (hl : m.ends.length ≤ 1000000) : Loop (scansionref17_maker_state.b2 self m e r) 0 = if r ∈ m.ends then some ((m.ends.idxOf r : Int), m) else scansionref17_maker_state.k1 self m e r := by
  have hle : m.ends.idxOf r ≤ m.ends.length := List.idxOf_le_length
  have hrun := Loop_int (b := scansionref17_maker_state.b2 self m e r) (i := 0) (n := m.ends.idxOf r) (Nat.zero_le _) (fun j _ hj => by
    have hj1 : m.ends[j]? = some (m.ends[j]'(by omega)) := List.getElem?_eq_getElem _
    have hne : ((m.ends[j]'(by omega)) == r) = false := by
      have := List.not_of_lt_findIdx (p := fun x => x == r) (xs := m.ends) (i := j) hj
      simpa using this
    rw [scansionref17_maker_state.b2, if_pos (by rw [decide_eq_true_eq]; omega), idx_nat, hj1, Option.bind_some, hne, if_neg (by decide), w64s (by omega)])
  rw [show ((0 : Nat) : Int) = 0 from rfl] at hrun
  rw [hrun]
  by_cases h : r ∈ m.ends
  · have hlt := List.idxOf_lt_length_iff.2 h
    have hj1 : m.ends[m.ends.idxOf r]? = some r := by rw [List.getElem?_eq_getElem hlt, List.getElem_idxOf]
    rw [if_pos h]
    apply Loop_done
    rw [scansionref17_maker_state.b2, if_pos (by rw [decide_eq_true_eq]; omega), idx_nat, hj1, Option.bind_some, if_pos (by simp)]
  · have : m.ends.idxOf r = m.ends.length := List.idxOf_eq_length h
    rw [if_neg h]
    apply Loop_end
    rw [scansionref17_maker_state.b2, if_neg (by rw [decide_eq_true_eq]; omega)]
end Go.Val

/- part P19 -/
/- Plain lemmas: how many sets of ends there are. -/
namespace Go.Val
set_option linter.unusedVariables false
def wt (e : List Str) (c : UInt8) : Nat := tot (beh e c) + (beh e c).length
theorem wt_snoc {l : List Str} {s : Str} {c : UInt8} : wt (l ++ [s]) c = wt l c + (if hasL c s then s.length else 0) := by
  unfold wt
  rw [beh_snoc]
  by_cases h : hasL c s
  · rw [if_pos h, if_pos h]
    have : 1 ≤ s.length := by cases s with
      | nil => simp [hasL] at h
      | cons d s => simp
    simp [tot]; omega
  · rw [if_neg h, if_neg h, List.append_nil]; omega
theorem sum_one {s : Str} {n : Nat} : ∀ {cs : List UInt8}, cs.Nodup → (cs.map fun c => if hasL c s then n else 0).sum ≤ n
  | [], _ => by simp
  | c :: cs, h => by
    rw [List.nodup_cons] at h
    have ih := sum_one (s := s) (n := n) h.2
    rw [List.map_cons, List.sum_cons]
    by_cases hc : hasL c s
    · have hz : (cs.map fun c => if hasL c s then n else 0).sum = 0 := by
        have : (cs.map fun c => if hasL c s then n else 0) = cs.map fun _ => 0 := List.map_congr_left fun d hd => by
          rw [if_neg]
          intro hd2
          unfold hasL at hc hd2
          rw [beq_iff_eq] at hc hd2
          rw [hc] at hd2; injection hd2 with e; subst e; exact h.1 hd
        rw [this]
        clear this ih h
        induction cs with
        | nil => rfl
        | cons d cs ih => rw [List.map_cons, List.sum_cons, ih]
      rw [if_pos hc, hz]; omega
    · rw [if_neg hc]; omega
theorem wt_sum {cs : List UInt8} (h : cs.Nodup) (e : List Str) : (cs.map (wt e)).sum ≤ tot e := by
  induction e using snoc_ind with
  | h0 => induction cs with
    | nil => simp
    | cons c cs ih => rw [List.map_cons, List.sum_cons]; have := ih (List.nodup_cons.1 h).2; simp [wt, beh, tot] at this ⊢; exact this
  | h1 l s ih =>
    have e1 : (cs.map (wt (l ++ [s]))).sum = (cs.map (wt l)).sum + (cs.map fun c => if hasL c s then s.length else 0).sum := by
      clear ih h
      induction cs with
      | nil => rfl
      | cons c cs ih => rw [List.map_cons, List.sum_cons, ih, wt_snoc, List.map_cons, List.sum_cons, List.map_cons, List.sum_cons]; omega
    have := sum_one (s := s) (n := s.length) h
    have : tot (l ++ [s]) = tot l + s.length := by simp [tot]
    omega
end Go.Val

/- part P20 -/
/- Plain lemmas: how long the table grows. -/
namespace Go.Val
set_option linter.unusedVariables false
theorem letters_nodup : letters.Nodup := by
  unfold letters List.Nodup
  rw [List.pairwise_map]
  refine List.Pairwise.imp_of_mem (R := fun a b => a ≠ b) (fun {a b} ha hb hne h => hne ?_) List.nodup_range
  have ha := List.mem_range.1 ha
  have hb := List.mem_range.1 hb
  have := congrArg UInt8.toNat h
  simp at this
  omega
theorem adds_len : ∀ (k : Nat) (T : List (List Str)) (e : List Str), Low k e → (adds k T e).length ≤ T.length + 1 + tot e
  | 0, T, e, hl => by have := hl.1; omega
  | k + 1, T, e, hl => by
    rw [adds_succ]
    by_cases he : e ∈ T
    · rw [if_pos he]; omega
    · rw [if_neg he]
      have fold : ∀ (cs : List UInt8) (T : List (List Str)), (cs.foldl (fstep k e) T).length ≤ T.length + (cs.map (wt e)).sum := by
        intro cs
        induction cs with
        | nil => intro T; simp
        | cons c cs ih =>
          intro T
          rw [List.foldl_cons, List.map_cons, List.sum_cons]
          have h1 := ih (fstep k e T c)
          have h2 : (fstep k e T c).length ≤ T.length + wt e c := by
            unfold fstep
            by_cases hc : beh e c = []
            · rw [if_pos hc]; omega
            · rw [if_neg hc]
              have := adds_len k T (beh e c) (hl.beh hc)
              have := List.length_pos_iff.2 hc
              unfold wt; omega
          omega
      have h1 := fold letters T
      have h2 := wt_sum letters_nodup e
      rw [List.length_append, List.length_singleton]; omega
end Go.Val

/- part P21 -/
/- Plain lemmas: the one texts of a table. -/
namespace Go.Val
set_option linter.unusedVariables false
def Sh (e : List Str) : Prop := ∀ s ∈ e, s.length ≤ 70
theorem one_mem {T : List (List Str)} (hT : ∀ f ∈ T, Sh f) {e : List Str} (he : Sh e) : oneS e ∈ T.map oneS ↔ e ∈ T := by
  rw [List.mem_map]
  exact ⟨fun ⟨f, hf, h⟩ => by rw [← oneS_inj (hT f hf) he h]; exact hf, fun h => ⟨e, h, rfl⟩⟩
theorem one_idx {e : List Str} (he : Sh e) : ∀ {T : List (List Str)}, (∀ f ∈ T, Sh f) → (T.map oneS).idxOf (oneS e) = T.idxOf e
  | [], _ => rfl
  | f :: T, hT => by
    rw [List.map_cons, List.idxOf_cons, List.idxOf_cons, one_idx he fun g hg => hT g (by simp [hg])]
    by_cases h : f = e
    · subst h; simp
    · have : ¬ oneS f = oneS e := fun h2 => h (oneS_inj (hT f (by simp)) he h2)
      rw [beq_eq_false_iff_ne.2 h, beq_eq_false_iff_ne.2 this]
theorem beh_sh {e : List Str} (h : Sh e) (c : UInt8) : Sh (beh e c) := fun t ht => by
  obtain ⟨s, hs, rfl⟩ := beh_mem ht
  have := h _ hs
  simp at this; omega
end Go.Val

/- part P22 -/
/- Plain lemmas: all ends of the table are short. -/
namespace Go.Val
set_option linter.unusedVariables false
theorem adds_sh : ∀ (k : Nat) {T : List (List Str)} {e : List Str}, (∀ f ∈ T, Sh f) → Sh e → ∀ f ∈ adds k T e, Sh f
  | 0, T, e, hT, he => hT
  | k + 1, T, e, hT, he => by
    rw [adds_succ]
    by_cases hm : e ∈ T
    · rw [if_pos hm]; exact hT
    · rw [if_neg hm]
      have fold : ∀ (cs : List UInt8) (T : List (List Str)), (∀ f ∈ T, Sh f) → ∀ f ∈ cs.foldl (fstep k e) T, Sh f := by
        intro cs
        induction cs with
        | nil => intro T hT; exact hT
        | cons c cs ih =>
          intro T hT
          rw [List.foldl_cons]
          refine ih _ ?_
          unfold fstep
          by_cases hc : beh e c = []
          · rw [if_pos hc]; exact hT
          · rw [if_neg hc]; exact adds_sh k hT (beh_sh he c)
      intro f hf
      rcases List.mem_append.1 hf with h | h
      · exact fold letters T hT f h
      · simp at h; subst h; exact he
end Go.Val

/- part P23 -/
/- Plain lemmas: the fold over letters, told by its prefixes. -/
namespace Go.Val
set_option linter.unusedVariables false
def tabAt (k : Nat) (e : List Str) (T : List (List Str)) (n : Nat) : List (List Str) := (letters.take n).foldl (fstep k e) T
theorem tabAt_succ {k : Nat} {e : List Str} {T : List (List Str)} {n : Nat} (h : n < 256) : tabAt k e T (n + 1) = fstep k e (tabAt k e T n) (UInt8.ofNat n) := by
  unfold tabAt
  rw [take_snoc (letters_at h), List.foldl_append]; rfl
theorem tabAt_last {k : Nat} {e : List Str} {T : List (List Str)} : tabAt k e T 256 = letters.foldl (fstep k e) T := by
  unfold tabAt; rw [List.take_of_length_le (by rw [letters_len]; omega)]
theorem tabAt_good {k : Nat} {e : List Str} {T : List (List Str)} (hl : Low (k + 1) e) (hg : Good T) : ∀ n, n ≤ 256 → Good (tabAt k e T n)
  | 0, _ => hg
  | n + 1, h => by
    rw [tabAt_succ (by omega)]
    unfold fstep
    by_cases hc : beh e (UInt8.ofNat n) = []
    · rw [if_pos hc]; exact tabAt_good hl hg n (by omega)
    · rw [if_neg hc]; exact (adds_good k _ _ (hl.beh hc) (tabAt_good hl hg n (by omega))).1
theorem tabAt_sh {k : Nat} {e : List Str} {T : List (List Str)} (hT : ∀ f ∈ T, Sh f) (he : Sh e) : ∀ n, n ≤ 256 → ∀ f ∈ tabAt k e T n, Sh f
  | 0, _ => hT
  | n + 1, h => by
    rw [tabAt_succ (by omega)]
    unfold fstep
    by_cases hc : beh e (UInt8.ofNat n) = []
    · rw [if_pos hc]; exact tabAt_sh hT he n (by omega)
    · rw [if_neg hc]; exact adds_sh k (tabAt_sh hT he n (by omega)) (beh_sh he _)
theorem tabAt_grow {k : Nat} {e : List Str} {T : List (List Str)} (hl : Low (k + 1) e) (hg : Good T) {n : Nat} : ∀ d, n + d ≤ 256 → ∃ V, tabAt k e T (n + d) = tabAt k e T n ++ V
  | 0, _ => ⟨[], by simp⟩
  | d + 1, h => by
    obtain ⟨V, hV⟩ := tabAt_grow hl hg (n := n) d (by omega)
    rw [← Nat.add_assoc, tabAt_succ (by omega)]
    unfold fstep
    by_cases hc : beh e (UInt8.ofNat (n + d)) = []
    · rw [if_pos hc]; exact ⟨V, hV⟩
    · rw [if_neg hc]
      obtain ⟨_, _, W, hW, _⟩ := adds_good k _ _ (hl.beh hc) (tabAt_good hl hg (n + d) (by omega))
      exact ⟨V ++ W, by rw [hW, hV, List.append_assoc]⟩
end Go.Val

/- part P24 -/
/- Plain lemmas: room for the table while it grows. -/
namespace Go.Val
set_option linter.unusedVariables false
theorem tabAt_len {k : Nat} {e : List Str} {T : List (List Str)} (hl : Low (k + 1) e) : ∀ n, n ≤ 256 → (tabAt k e T n).length ≤ T.length + ((letters.take n).map (wt e)).sum
  | 0, _ => by simp [tabAt]
  | n + 1, h => by
    have ih := tabAt_len (T := T) hl n (by omega)
    rw [tabAt_succ (by omega), take_snoc (letters_at (by omega)), List.map_append, List.sum_append]
    unfold fstep
    by_cases hc : beh e (UInt8.ofNat n) = []
    · rw [if_pos hc]; omega
    · rw [if_neg hc]
      have := adds_len k (tabAt k e T n) _ (hl.beh hc)
      have := List.length_pos_iff.2 hc
      simp [wt] at ih ⊢; omega
theorem sum_take {e : List Str} {n : Nat} (h : n < 256) : ((letters.take n).map (wt e)).sum + wt e (UInt8.ofNat n) ≤ tot e := by
  have h1 := wt_sum letters_nodup e
  have h2 : letters = letters.take (n + 1) ++ letters.drop (n + 1) := (List.take_append_drop _ _).symm
  rw [h2, take_snoc (letters_at h), List.map_append, List.map_append, List.sum_append, List.sum_append] at h1
  simp at h1 ⊢; omega
end Go.Val

/- part P25 -/
/- Plain lemmas: the reference's maker makes the table. -/
namespace Go.Val
set_option linter.unusedVariables false
def rowf (U : List (List Str)) (e : List Str) (c : UInt8) : Option TEdge := if beh e c = [] then none else some ⟨c, (U.idxOf (beh e c) : Int)⟩
def mkOf (T : List (List Str)) : Tscansionref17_maker := ⟨graphT T, T.map oneS⟩
theorem tabAt_low {k : Nat} {e : List Str} {T : List (List Str)} (hl : Low (k + 1) e) (hg : Good T) : ∀ n, n ≤ 256 → ∃ V, tabAt k e T n = T ++ V ∧ ∀ f ∈ V, tot f < tot e
  | 0, _ => ⟨[], by simp [tabAt], by simp⟩
  | n + 1, h => by
    obtain ⟨V, hV, hV2⟩ := tabAt_low hl hg n (by omega)
    rw [tabAt_succ (by omega)]
    unfold fstep
    by_cases hc : beh e (UInt8.ofNat n) = []
    · rw [if_pos hc]; exact ⟨V, hV, hV2⟩
    · rw [if_neg hc]
      obtain ⟨_, _, W, hW, hW2⟩ := adds_good k _ _ (hl.beh hc) (tabAt_good hl hg n (by omega))
      refine ⟨V ++ W, by rw [hW, hV, List.append_assoc], fun f hf => ?_⟩
      rcases List.mem_append.1 hf with h | h
      · exact hV2 f h
      · exact Nat.lt_of_le_of_lt (hW2 f h) (tot_lt hc)
theorem tabAt_has {k : Nat} {e : List Str} {T : List (List Str)} (hl : Low (k + 1) e) (hg : Good T) (c : UInt8) (hc : beh e c ≠ []) : beh e c ∈ tabAt k e T 256 := by
  have hn := c.toNat_lt
  obtain ⟨V, hV⟩ := tabAt_grow hl hg (n := c.toNat + 1) (255 - c.toNat) (by omega)
  rw [show c.toNat + 1 + (255 - c.toNat) = 256 by omega] at hV
  rw [hV, tabAt_succ (by omega)]
  unfold fstep
  rw [UInt8.ofNat_toNat, if_neg hc]
  exact List.mem_append_left _ (adds_good k _ _ (hl.beh hc) (tabAt_good hl hg c.toNat (by omega))).2.1
theorem maker_run : ∀ (k : Nat) (T : List (List Str)) (e : List Str), Low k e → Good T → (∀ f ∈ T, Sh f) → Sh e → e.length ≤ 1000 → T.length + 1 + tot e ≤ 1000000 →
    scansionref17_maker_state.r k (mkOf T) e = some (((adds k T e).idxOf e : Int), mkOf (adds k T e))
  | 0, T, e, hl, hg, hT, he, hn, hb => by have := hl.1; omega
  | k + 1, T, e, hl, hg, hT, he, hn, hb => by
    unfold scansionref17_maker_state.r
    rw [ref_one_eq (by omega) he, Option.bind_some, maker_look (by simp [mkOf]; omega)]
    have hends : (mkOf T).ends = T.map oneS := rfl
    rw [hends, adds_succ]
    by_cases hm : e ∈ T
    · rw [if_pos ((one_mem hT he).2 hm), if_pos hm, one_idx he hT]
    · rw [if_neg (fun h => hm ((one_mem hT he).1 h)), if_neg hm]
      unfold scansionref17_maker_state.k1
      rw [← tabAt_last]
      generalize hU : tabAt k e T 256 = U
      have hgU := tabAt_good hl hg 256 (Nat.le_refl _)
      have hrun := Loop_run (b := scansionref17_maker_state.b1 (scansionref17_maker_state.r k) e (oneS e)) (fun n => ((letters.take n).filterMap (rowf U e), (n : Int), (graphT (tabAt k e T n)).Final, (graphT (tabAt k e T n)).Edges, (tabAt k e T n).map oneS)) (i := 0) (n := 256) (Nat.zero_le _) (fun n _ hn => by
        have hc8 : u8 (IntKind.u8.wrap (n : Int)) = UInt8.ofNat n := by
          unfold u8
          congr 1
          simp [IntKind.wrap, IntKind.signed, IntKind.bits]; omega
        have hlen := tabAt_len (T := T) hl n (by omega)
        have hsum := sum_take (e := e) hn
        have hrl : ((letters.take n).filterMap (rowf U e)).length ≤ 256 := Nat.le_trans (List.length_filterMap_le _ _) (by rw [List.length_take, letters_len]; omega)
        show scansionref17_maker_state.b1 _ e (oneS e) (_, (n : Int), _, _, _) = _
        rw [scansionref17_maker_state.b1, if_pos (by rw [decide_eq_true_eq]; omega), hc8, ref_behind_eq (by omega), Option.bind_some, take_snoc (letters_at hn), List.filterMap_append, tabAt_succ hn]
        unfold fstep scansionref17_maker_state.k3
        by_cases hc : beh e (UInt8.ofNat n) = []
        · have hr : rowf U e (UInt8.ofNat n) = none := by unfold rowf; rw [if_pos hc]
          rw [if_neg (by rw [hc]; decide), if_pos hc, w64s (by omega)]
          simp [List.filterMap, hr]
        · obtain ⟨V, hV⟩ := tabAt_grow hl hg (n := n + 1) (255 - n) (by omega)
          rw [show n + 1 + (255 - n) = 256 by omega, hU, tabAt_succ hn] at hV
          unfold fstep at hV
          rw [if_neg hc] at hV
          have hin := (adds_good k _ _ (hl.beh hc) (tabAt_good hl hg n (by omega))).2.1
          have hr : rowf U e (UInt8.ofNat n) = some ⟨UInt8.ofNat n, ((adds k (tabAt k e T n) (beh e (UInt8.ofNat n))).idxOf (beh e (UInt8.ofNat n)) : Int)⟩ := by
            unfold rowf; rw [if_neg hc, hV, idxOf_app hin]
          have hpos := List.length_pos_iff.2 hc
          have hw : wt e (UInt8.ofNat n) = tot (beh e (UInt8.ofNat n)) + (beh e (UInt8.ofNat n)).length := rfl
          have ih := maker_run k (tabAt k e T n) (beh e (UInt8.ofNat n)) (hl.beh hc) (tabAt_good hl hg n (by omega)) (tabAt_sh hT he n (by omega)) (beh_sh he _) (Nat.le_trans beh_len (by omega)) (by omega)
          rw [if_pos (by rw [decide_eq_true_eq]; omega), if_neg hc]
          show ((scansionref17_maker_state.r k (mkOf (tabAt k e T n)) (beh e (UInt8.ofNat n))).bind _) = _
          rw [ih, Option.bind_some, room_ok (by omega), Option.bind_some, w64s (by omega)]
          simp [List.filterMap, hr, mkOf])
      simp only [List.take_zero, show ((0 : Nat) : Int) = 0 from rfl] at hrun
      have h0 : tabAt k e T 0 = T := rfl
      rw [h0, hU, List.take_of_length_le (by rw [letters_len]; omega : letters.length ≤ 256)] at hrun
      have hlen := tabAt_len (T := T) hl 256 (Nat.le_refl _)
      have hsum := wt_sum letters_nodup e
      rw [List.take_of_length_le (by rw [letters_len]; omega : letters.length ≤ 256), hU] at hlen
      have hgood := adds_good (k + 1) T e hl hg
      show Loop _ (([] : List TEdge), (0 : Int), (graphT T).Final, (graphT T).Edges, T.map oneS) = _
      rw [show ([] : List TEdge) = List.filterMap (rowf U e) [] from rfl, hrun]
      apply Loop_end
      rw [scansionref17_maker_state.b1, if_neg (by decide)]
      congr 1
      have hrow : letters.filterMap (rowf U e) = rowOf U e := rfl
      have hbm : ∀ c, beh e c ≠ [] → beh e c ∈ U := fun c hc => by
        rw [← hU]; exact tabAt_has hl hg c hc
      have hne : e ∉ U := by
        obtain ⟨V, hV, hV2⟩ := tabAt_low hl hg 256 (Nat.le_refl _)
        rw [← hU, hV]; intro h
        rcases List.mem_append.1 h with h | h
        · exact hm h
        · exact absurd (hV2 e h) (Nat.lt_irrefl _)
      have hgs := graphT_snoc (by rw [← hU]; exact tabAt_good hl hg 256 (Nat.le_refl _) : Good U) hbm
      unfold scansionref17_maker_state.k2
      have hfl : (graphT U).Final.length = U.length := by simp [graphT]
      have hel : (graphT U).Edges.length = U.length := by simp [graphT]
      rw [List.length_map, room_ok (by omega), Option.bind_some, hfl, hel, room_ok (by omega), room_ok (by omega)]
      have hfin : ((if decide ((e.length : Int) > 0) = true then (e[0]?).bind fun s => (some () : Option Unit).bind fun _ => some ((graphT U).Final ++ [s == ([] : Str)]) else (some () : Option Unit).bind fun _ => some ((graphT U).Final ++ [false])) : Option (List Bool)) = some ((graphT U).Final ++ [finOf e]) := by
        cases e with
        | nil => rfl
        | cons s e => rw [if_pos (by simp)]; rfl
      rw [hfin, Option.bind_some, Option.bind_some]
      have hidx : (U ++ [e]).idxOf e = U.length := by rw [List.idxOf_append, if_neg hne]; simp
      rw [hidx, List.length_append, List.length_map, List.length_singleton, w64 (by omega) (by omega)]
      unfold mkOf
      rw [hgs, List.map_append, hrow]
      congr 2
      omega
end Go.Val

/- part P26 -/
/- Plain lemmas: rising lists of texts. -/
namespace Go.Val
set_option linter.unusedVariables false
theorem bl_irr : ∀ a : Str, Op.bytesLess a a = false
  | [] => rfl
  | c :: a => by simp [Op.bytesLess, bl_irr a]
theorem bl_trans : ∀ {a b c : Str}, Op.bytesLess a b = true → Op.bytesLess b c = true → Op.bytesLess a c = true
  | _, [], _, h, _ => by cases ‹List UInt8› <;> simp [Op.bytesLess] at h
  | _, _ :: _, [], _, h => by simp [Op.bytesLess] at h
  | [], _ :: _, _ :: _, _, _ => rfl
  | x :: a, y :: b, z :: c, h1, h2 => by
    simp only [Op.bytesLess, Bool.or_eq_true, Bool.and_eq_true, decide_eq_true_eq, beq_iff_eq] at h1 h2 ⊢
    rcases h1 with h1 | ⟨rfl, h1⟩
    · rcases h2 with h2 | ⟨rfl, h2⟩
      · exact .inl (UInt8.lt_trans h1 h2)
      · exact .inl h1
    · rcases h2 with h2 | ⟨rfl, h2⟩
      · exact .inl h2
      · exact .inr ⟨rfl, bl_trans h1 h2⟩
theorem bl_tot : ∀ {a b : Str}, Op.bytesLess b a = false → (b == a) = false → Op.bytesLess a b = true
  | [], [], _, h => by simp at h
  | [], _ :: _, _, _ => rfl
  | _ :: _, [], h, _ => by simp [Op.bytesLess] at h
  | x :: a, y :: b, h1, h2 => by
    simp only [Op.bytesLess, Bool.or_eq_false_iff, Bool.or_eq_true, Bool.and_eq_true, decide_eq_true_eq, decide_eq_false_iff_not, beq_iff_eq] at h1 ⊢
    by_cases hx : x = y
    · subst hx
      refine .inr ⟨rfl, bl_tot ?_ ?_⟩
      · have := h1.2; simpa using this
      · simpa using h2
    · left
      have := h1.1
      rw [UInt8.lt_iff_toNat_lt] at this ⊢
      have : x.toNat ≠ y.toNat := fun e => hx (UInt8.toNat_inj.1 e)
      omega
theorem bl_asym {a b : Str} (h : Op.bytesLess a b = true) : Op.bytesLess b a = false := by
  cases h2 : Op.bytesLess b a with
  | false => rfl
  | true => have := bl_trans h h2; rw [bl_irr] at this; cases this
theorem bl_cons {c : UInt8} {a b : Str} : Op.bytesLess (c :: a) (c :: b) = Op.bytesLess a b := by simp [Op.bytesLess]
theorem bl_head {c d : UInt8} {a b : Str} (h : Op.bytesLess (c :: a) (d :: b) = true) : c.toNat ≤ d.toNat := by
  simp only [Op.bytesLess, Bool.or_eq_true, Bool.and_eq_true, decide_eq_true_eq, beq_iff_eq] at h
  rcases h with h | ⟨rfl, _⟩
  · rw [UInt8.lt_iff_toNat_lt] at h; omega
  · exact Nat.le_refl _
def Ri (e : List Str) : Prop := List.Pairwise (fun a b => Op.bytesLess a b = true) e
theorem RiseP.ri {l : List Str} (h : RiseP l) : Ri l := by
  unfold Ri
  rw [List.pairwise_iff_getElem]
  have key : ∀ d i (hi : i + d + 1 < l.length), Op.bytesLess l[i] l[i + d + 1] = true := by
    intro d
    induction d with
    | zero => intro i hi; have := h.2 (i + 1) (by omega) hi l[i] l[i + 1] (by simp) (by simp); rw [Bool.or_eq_false_iff] at this; exact bl_tot this.1 this.2
    | succ d ih =>
      intro i hi
      have h1 := ih i (by omega)
      have h2 := h.2 (i + d + 1 + 1) (by omega) hi l[i + d + 1] l[i + d + 1 + 1] (by simp) (by simp)
      rw [Bool.or_eq_false_iff] at h2
      exact bl_trans h1 (bl_tot h2.1 h2.2)
  intro i j hi hj hij
  have := key (j - i - 1) i (by omega)
  simp only [show i + (j - i - 1) + 1 = j by omega] at this
  exact this
theorem Ri.nodup {e : List Str} (h : Ri e) : e.Nodup := by
  refine List.Pairwise.imp (fun {a b} hab e => ?_) h
  subst e; rw [bl_irr] at hab; cases hab
theorem Ri.beh {e : List Str} (h : Ri e) (c : UInt8) : Ri (Go.Val.beh e c) := by
  unfold Ri Go.Val.beh
  rw [List.pairwise_map]
  refine List.Pairwise.imp_of_mem (fun {a b} ha hb hab => ?_) (List.Pairwise.sublist List.filter_sublist h)
  have ha := (List.mem_filter.1 ha).2
  have hb := (List.mem_filter.1 hb).2
  cases a with
  | nil => simp [hasL] at ha
  | cons x a => cases b with
    | nil => simp [hasL] at hb
    | cons y b =>
      simp [hasL] at ha hb
      rw [ha, hb, bl_cons] at hab; exact hab
/-- Rising lists with the same texts are the same. -/
theorem Ri.ext : ∀ {e f : List Str}, Ri e → Ri f → (∀ s, s ∈ e ↔ s ∈ f) → e = f
  | [], [], _, _, _ => rfl
  | [], s :: f, _, _, h => by have := (h s).2 (by simp); simp at this
  | s :: e, [], _, _, h => by have := (h s).1 (by simp); simp at this
  | s :: e, t :: f, h1, h2, h => by
    have h1' := List.pairwise_cons.1 h1
    have h2' := List.pairwise_cons.1 h2
    have hst : s = t := by
      rcases List.mem_cons.1 ((h s).1 (by simp)) with q | q
      · exact q
      · rcases List.mem_cons.1 ((h t).2 (by simp)) with r | r
        · exact r.symm
        · have := bl_trans (h1'.1 t r) (h2'.1 s q)
          rw [bl_irr] at this; cases this
    subst hst
    rw [Ri.ext h1'.2 h2'.2 fun x => ⟨fun hx => by
      rcases List.mem_cons.1 ((h x).1 (by simp [hx])) with q | q
      · subst q; have := h1'.1 x hx; rw [bl_irr] at this; cases this
      · exact q, fun hx => by
      rcases List.mem_cons.1 ((h x).2 (by simp [hx])) with q | q
      · subst q; have := h2'.1 x hx; rw [bl_irr] at this; cases this
      · exact q⟩]
theorem mem_beh {e : List Str} {c : UInt8} {t : Str} : t ∈ beh e c ↔ c :: t ∈ e := by
  refine ⟨fun h => by obtain ⟨s, hs, rfl⟩ := beh_mem h; exact hs, fun h => ?_⟩
  unfold beh
  rw [List.mem_map]
  exact ⟨c :: t, List.mem_filter.2 ⟨h, by simp [hasL]⟩, rfl⟩
theorem Ri.fin {e : List Str} (h : Ri e) : finOf e = true ↔ [] ∈ e := by
  unfold finOf
  cases e with
  | nil => simp
  | cons s e =>
    rw [List.head?_cons]
    refine ⟨fun h => by simp at h; simp [h], fun hm => ?_⟩
    rcases List.mem_cons.1 hm with q | q
    · rw [← q]; rfl
    · have := (List.pairwise_cons.1 h).1 [] q
      cases s <;> simp [Op.bytesLess] at this
/-- A rising list is told by its end, and what is behind its letters. -/
theorem Ri.det {e f : List Str} (he : Ri e) (hf : Ri f) (h1 : finOf e = finOf f) (h2 : ∀ c, Go.Val.beh e c = Go.Val.beh f c) : e = f := by
  refine he.ext hf fun s => ?_
  cases s with
  | nil => rw [← he.fin, ← hf.fin, h1]
  | cons c t => rw [← mem_beh, ← mem_beh, h2]
theorem row_det {U : List (List Str)} {e f : List Str} (he : Ri e) (hf : Ri f) (ee : ∀ c, beh e c ≠ [] → beh e c ∈ U) (ef : ∀ c, beh f c ≠ [] → beh f c ∈ U) (h1 : finOf e = finOf f) (h2 : rowOf U e = rowOf U f) : e = f := by
  have key : ∀ {e f : List Str}, (∀ c, beh e c ≠ [] → beh e c ∈ U) → (∀ c, beh f c ≠ [] → beh f c ∈ U) → rowOf U e = rowOf U f → ∀ c, beh e c ≠ [] → beh e c = beh f c := by
    intro e f ee ef h2 c hc
    have : (⟨c, (U.idxOf (beh e c) : Int)⟩ : TEdge) ∈ rowOf U e := by
      unfold rowOf
      rw [List.mem_filterMap]
      exact ⟨c, letters_mem c, by rw [if_neg hc]⟩
    rw [h2] at this
    unfold rowOf at this
    rw [List.mem_filterMap] at this
    obtain ⟨d, _, hd⟩ := this
    by_cases hd2 : beh f d = []
    · rw [if_pos hd2] at hd; cases hd
    · rw [if_neg hd2] at hd
      injection hd with hd
      injection hd with q1 q2
      subst q1
      have q3 : U.idxOf (beh f d) = U.idxOf (beh e d) := by omega
      have m1 := List.idxOf_lt_length_iff.2 (ef d hd2)
      have m2 := List.idxOf_lt_length_iff.2 (ee d hc)
      have g1 := List.getElem_idxOf m1
      have g2 := List.getElem_idxOf m2
      rw [← g2, ← g1]
      congr 1
      exact q3.symm
  refine he.det hf h1 fun c => ?_
  by_cases hc : beh e c = []
  · by_cases hd : beh f c = []
    · rw [hc, hd]
    · exact (key ef ee h2.symm c hd).symm
  · exact key ee ef h2 c hc
theorem adds_all {P : List Str → Prop} (hP : ∀ e c, P e → P (beh e c)) : ∀ (k : Nat) {T : List (List Str)} {e : List Str}, (∀ f ∈ T, P f) → P e → ∀ f ∈ adds k T e, P f
  | 0, T, e, hT, he => hT
  | k + 1, T, e, hT, he => by
    rw [adds_succ]
    by_cases hm : e ∈ T
    · rw [if_pos hm]; exact hT
    · rw [if_neg hm]
      have fold : ∀ (cs : List UInt8) (T : List (List Str)), (∀ f ∈ T, P f) → ∀ f ∈ cs.foldl (fstep k e) T, P f := by
        intro cs
        induction cs with
        | nil => intro T hT; exact hT
        | cons c cs ih =>
          intro T hT
          rw [List.foldl_cons]
          refine ih _ ?_
          unfold fstep
          by_cases hc : beh e c = []
          · rw [if_pos hc]; exact hT
          · rw [if_neg hc]; exact adds_all hP k hT (hP e c he)
      intro f hf
      rcases List.mem_append.1 hf with h | h
      · exact fold letters T hT f h
      · simp at h; subst h; exact he
theorem tabAt_all {P : List Str → Prop} (hP : ∀ e c, P e → P (beh e c)) {k : Nat} {e : List Str} {T : List (List Str)} (hT : ∀ f ∈ T, P f) (he : P e) : ∀ n, n ≤ 256 → ∀ f ∈ tabAt k e T n, P f
  | 0, _ => hT
  | n + 1, h => by
    rw [tabAt_succ (by omega)]
    unfold fstep
    by_cases hc : beh e (UInt8.ofNat n) = []
    · rw [if_pos hc]; exact tabAt_all hP hT he n (by omega)
    · rw [if_neg hc]; exact adds_all hP k (tabAt_all hP hT he n (by omega)) (hP _ _ he)
end Go.Val

/- part P27 -/
/- Plain lemmas: the states that the builder knows. -/
namespace Go.Val
set_option linter.unusedVariables false
def tag {α κ : Type} (g : α → κ) : Nat → List α → List (κ × Int)
  | _, [] => []
  | n, x :: l => (g x, (n : Int)) :: tag g (n + 1) l
theorem tag_snoc {α κ : Type} {g : α → κ} {x : α} : ∀ {n : Nat} {l : List α}, tag g n (l ++ [x]) = tag g n l ++ [(g x, ((n + l.length : Nat) : Int))]
  | n, [] => rfl
  | n, y :: l => by
    rw [List.cons_append, tag, tag, tag_snoc, List.cons_append]
    rw [show n + 1 + l.length = n + (y :: l).length by simp; omega]
theorem tag_congr {α κ : Type} {g h : α → κ} : ∀ {n : Nat} {l : List α}, (∀ x ∈ l, g x = h x) → tag g n l = tag h n l
  | n, [], _ => rfl
  | n, y :: l, hh => by rw [tag, tag, hh y (by simp), tag_congr fun x hx => hh x (by simp [hx])]
theorem aget_tag_none {α κ : Type} [DecidableEq κ] {g : α → κ} {k : κ} : ∀ {n : Nat} {l : List α}, (∀ x ∈ l, g x ≠ k) → aget k (tag g n l) = none
  | n, [], _ => rfl
  | n, y :: l, h => by
    rw [tag, aget, if_neg (fun e => h y (by simp) e.symm), aget_tag_none fun x hx => h x (by simp [hx])]
theorem aget_tag {α κ : Type} [DecidableEq κ] [BEq α] [LawfulBEq α] {g : α → κ} {x : α} : ∀ {n : Nat} {l : List α}, x ∈ l → (∀ y ∈ l, g y = g x → y = x) → aget (g x) (tag g n l) = some ((n + l.idxOf x : Nat) : Int)
  | n, [], h, _ => by cases h
  | n, y :: l, h, hg => by
    rw [tag, aget]
    by_cases e : y = x
    · subst e; rw [if_pos rfl]; simp
    · rw [if_neg (fun e2 => e (hg y (by simp) e2.symm))]
      rw [aget_tag (List.mem_of_ne_of_mem (fun h => e h.symm) h) fun z hz => hg z (by simp [hz])]
      rw [List.idxOf_cons, beq_eq_false_iff_ne.2 e]
      simp; omega
theorem aput_new {κ ν : Type} [DecidableEq κ] {k : κ} {v : ν} : ∀ {l : List (κ × ν)}, aget k l = none → aput k v l = l ++ [(k, v)]
  | [], _ => rfl
  | (k', v') :: l, h => by
    rw [aget] at h
    by_cases e : k = k'
    · rw [if_pos e] at h; cases h
    · rw [if_neg e] at h; rw [aput, if_neg e, aput_new h]; rfl
def keyT (T : List (List Str)) (e : List Str) : Str := keyOf (finOf e) (rowOf T e)
def known (T : List (List Str)) : List (Str × Int) := tag (keyT T) 0 T
def bOf (T : List (List Str)) : Tdawg_builder := ⟨graphT T, known T⟩
theorem row_ToOk {T : List (List Str)} {e : List Str} (hT : T.length ≤ 1000000) : ∀ x ∈ rowOf T e, ToOk x := by
  intro x hx
  unfold rowOf at hx
  rw [List.mem_filterMap] at hx
  obtain ⟨c, _, hc⟩ := hx
  by_cases h : beh e c = []
  · rw [if_pos h] at hc; cases hc
  · rw [if_neg h] at hc
    injection hc with hc
    subst hc
    have : T.idxOf (beh e c) ≤ T.length := List.idxOf_le_length
    exact ⟨by show (0 : Int) ≤ (T.idxOf (beh e c) : Int); omega, by show (T.idxOf (beh e c) : Int) < _; omega⟩
theorem keyT_inj {T : List (List Str)} (hT : T.length ≤ 1000000) {e f : List Str} (he : Ri e) (hf : Ri f) (ee : ∀ c, beh e c ≠ [] → beh e c ∈ T) (ef : ∀ c, beh f c ≠ [] → beh f c ∈ T) (h : keyT T e = keyT T f) : e = f := by
  obtain ⟨h1, h2⟩ := key_inj (row_ToOk hT) (row_ToOk hT) h
  exact row_det he hf ee ef h1 h2
theorem known_snoc {T : List (List Str)} (h : Good T) {e : List Str} (hb : ∀ c, beh e c ≠ [] → beh e c ∈ T) : known (T ++ [e]) = known T ++ [(keyT T e, (T.length : Int))] := by
  unfold known
  rw [tag_snoc]
  have h1 : keyT (T ++ [e]) e = keyT T e := by unfold keyT; rw [rowOf_app hb]
  rw [h1, Nat.zero_add]
  congr 1
  exact tag_congr fun f hf => by unfold keyT; rw [rowOf_app fun c hc => h.mem hf c hc]
theorem known_has {T : List (List Str)} (hg : Good T) (hT : T.length ≤ 1000000) (hr : ∀ f ∈ T, Ri f) {e : List Str} (he : e ∈ T) : aget (keyT T e) (known T) = some (T.idxOf e : Int) := by
  have := aget_tag (g := keyT T) (n := 0) he fun y hy hk => keyT_inj hT (hr y hy) (hr e he) (fun c hc => hg.mem hy c hc) (fun c hc => hg.mem he c hc) hk
  rw [Nat.zero_add] at this
  exact this
theorem known_no {T : List (List Str)} (hg : Good T) (hT : T.length ≤ 1000000) (hr : ∀ f ∈ T, Ri f) {e : List Str} (he : e ∉ T) (hre : Ri e) (hb : ∀ c, beh e c ≠ [] → beh e c ∈ T) : aget (keyT T e) (known T) = none :=
  aget_tag_none fun x hx hk => he (keyT_inj hT (hr x hx) hre (fun c hc => hg.mem hx c hc) hb hk ▸ hx)
theorem row_len {T : List (List Str)} {e : List Str} : (rowOf T e).length ≤ 256 := Nat.le_trans (List.length_filterMap_le _ _) (by rw [letters_len]; omega)
/-- The end of the builder's step: a state that is known, or a new one. -/
theorem b_k2_has {T : List (List Str)} (hg : Good T) (hT : T.length ≤ 1000000) (hr : ∀ f ∈ T, Ri f) {e : List Str} (he : e ∈ T) : dawg_builder_state.k2 (finOf e) (rowOf T e) (graphT T).Final (graphT T).Edges (known T) = some ((T.idxOf e : Int), bOf T) := by
  unfold dawg_builder_state.k2
  rw [key_eq (Nat.le_trans row_len (by omega)), Option.bind_some]
  have := known_has hg hT hr he
  unfold keyT at this
  rw [this, if_neg (by simp)]
  rfl
theorem b_k2_new {T : List (List Str)} (hg : Good T) (hT : T.length < 1000000) (hr : ∀ f ∈ T, Ri f) {e : List Str} (he : e ∉ T) (hre : Ri e) (hb : ∀ c, beh e c ≠ [] → beh e c ∈ T) : dawg_builder_state.k2 (finOf e) (rowOf T e) (graphT T).Final (graphT T).Edges (known T) = some ((T.length : Int), bOf (T ++ [e])) := by
  unfold dawg_builder_state.k2
  rw [key_eq (Nat.le_trans row_len (by omega)), Option.bind_some]
  have h := known_no hg (by omega) hr he hre hb
  have hfl : (graphT T).Final.length = T.length := by simp [graphT]
  have hel : (graphT T).Edges.length = T.length := by simp [graphT]
  unfold bOf
  rw [graphT_snoc hg hb, known_snoc hg hb]
  rw [← aput_new h]
  unfold keyT at h ⊢
  rw [h, if_pos (by simp), hfl, hel, room_ok (by omega), Option.bind_some, room_ok (by omega), Option.bind_some]
  rfl
end Go.Val

/- part P28 -/
/- Plain lemmas: groups of one letter in a rising list. -/
namespace Go.Val
set_option linter.unusedVariables false
theorem beh_app {l m : List Str} {c : UInt8} : beh (l ++ m) c = beh l c ++ beh m c := by
  unfold beh; rw [List.filter_append, List.map_append]
theorem beh_all {l : List Str} {c : UInt8} (h : ∀ s ∈ l, hasL c s = true) : beh l c = l.map List.tail := by
  unfold beh; rw [List.filter_eq_self.2 h]
theorem beh_none {l : List Str} {c : UInt8} (h : ∀ s ∈ l, hasL c s = false) : beh l c = [] := by
  unfold beh
  rw [List.filter_eq_nil_iff.2 fun s hs => by rw [h s hs]; decide]; rfl
theorem hasL_lt {c d : UInt8} {s : Str} (h : hasL c s = true) (hd : c ≠ d) : hasL d s = false := by
  unfold hasL at h ⊢
  rw [beq_iff_eq] at h
  rw [h]
  simpa using hd
def cutN (c : UInt8) (ds : List Str) : Nat := ds.findIdx fun s => !hasL c s
theorem cutN_le {c : UInt8} {ds : List Str} : cutN c ds ≤ ds.length := List.findIdx_le_length
theorem cutN_lo {c : UInt8} {ds : List Str} : ∀ s ∈ ds.take (cutN c ds), hasL c s = true := by
  intro s hs
  obtain ⟨i, hi, rfl⟩ := List.getElem_of_mem hs
  rw [List.length_take] at hi
  rw [List.getElem_take]
  have := List.not_of_lt_findIdx (p := fun s => !hasL c s) (xs := ds) (i := i) (by unfold cutN at hi; omega)
  simpa using this
theorem cutN_hi {c : UInt8} {t : Str} {ds : List Str} (h : Ri ((c :: t) :: ds)) (hne : ∀ s ∈ ds, s ≠ []) : ∀ s ∈ ((c :: t) :: ds).drop (cutN c ((c :: t) :: ds)), ∃ d u, s = d :: u ∧ c.toNat < d.toNat := by
  have key : ∀ n, cutN c ((c :: t) :: ds) = n → ∀ i (hi : n + i < ((c :: t) :: ds).length), ∃ d u, ((c :: t) :: ds)[n + i] = d :: u ∧ c.toNat < d.toNat := by
   intro n hn i hi
   have hlt : n < ((c :: t) :: ds).length := by omega
   have hn0 : 0 < n := by
     have h0 : n ≠ 0 := by
       intro h0
       have := List.findIdx_getElem (p := fun s => !hasL c s) (xs := (c :: t) :: ds) (w := by show cutN c ((c :: t) :: ds) < _; rw [hn]; exact hlt)
       have e0 : ((c :: t) :: ds).findIdx (fun s => !hasL c s) = 0 := by show cutN c ((c :: t) :: ds) = 0; rw [hn, h0]
       simp only [e0] at this
       simp [hasL] at this
     omega
   have hbad : hasL c (((c :: t) :: ds)[n]'hlt) = false := by
     have := List.findIdx_getElem (p := fun s => !hasL c s) (xs := (c :: t) :: ds) (w := by show cutN c ((c :: t) :: ds) < _; rw [hn]; exact hlt)
     have e0 : ((c :: t) :: ds).findIdx (fun s => !hasL c s) = n := hn
     simp only [e0] at this
     simpa using this
   have hp := List.pairwise_iff_getElem.1 h
   have hmem : ∀ j (hj : j < ((c :: t) :: ds).length), 0 < j → ∃ d u, ((c :: t) :: ds)[j] = d :: u := fun j hj h0 => by
     obtain ⟨j, rfl⟩ : ∃ k, j = k + 1 := ⟨j - 1, by omega⟩
     rw [List.getElem_cons_succ]
     have hlen : j < ds.length := by simp at hj; omega
     have := hne ds[j] (List.getElem_mem hlen)
     cases hd : ds[j] with
     | nil => exact absurd hd this
     | cons d u => exact ⟨d, u, rfl⟩
   obtain ⟨d, u, hd⟩ := hmem n hlt hn0
   have h1 := hp 0 n (by simp) hlt hn0
   rw [hd, List.getElem_cons_zero] at h1
   rw [hd] at hbad
   have hcd : c.toNat < d.toNat := by
     have := bl_head h1
     have hne2 : c ≠ d := fun e => by subst e; simp [hasL] at hbad
     have : c.toNat ≠ d.toNat := fun e => hne2 (UInt8.toNat_inj.1 e)
     omega
   by_cases hi0 : i = 0
   · subst hi0
     simp only [Nat.add_zero]
     exact ⟨d, u, hd, hcd⟩
   · obtain ⟨x, v, hx⟩ := hmem (n + i) (by omega) (by omega)
     have h2 := hp n (n + i) hlt (by omega) (by omega)
     rw [hd, hx] at h2
     have := bl_head h2
     exact ⟨x, v, hx, by omega⟩
  intro s hs
  obtain ⟨i, hi, rfl⟩ := List.getElem_of_mem hs
  rw [List.length_drop] at hi
  rw [List.getElem_drop]
  exact key _ rfl i (by omega)
/-- Letters that none begins with leave all as it is. -/
theorem tab_skip {k : Nat} {e : List Str} {T : List (List Str)} {n : Nat} : ∀ d, n + d ≤ 256 → (∀ c : UInt8, n ≤ c.toNat → c.toNat < n + d → beh e c = []) → tabAt k e T (n + d) = tabAt k e T n ∧ ∀ U, (letters.take (n + d)).filterMap (rowf U e) = (letters.take n).filterMap (rowf U e)
  | 0, _, _ => ⟨rfl, fun _ => rfl⟩
  | d + 1, h, hc => by
    obtain ⟨i1, i2⟩ := tab_skip (n := n) (k := k) (T := T) d (by omega) fun c h1 h2 => hc c h1 (by omega)
    have hb : beh e (UInt8.ofNat (n + d)) = [] := hc _ (by simp; omega) (by simp; omega)
    rw [← Nat.add_assoc]
    refine ⟨?_, fun U => ?_⟩
    · rw [tabAt_succ (by omega)]
      unfold fstep
      rw [if_pos hb, i1]
    · rw [take_snoc (letters_at (by omega)), List.filterMap_append, i2 U]
      have : rowf U e (UInt8.ofNat (n + d)) = none := by unfold rowf; rw [if_pos hb]
      rw [List.filterMap_cons_none this, List.filterMap_nil, List.append_nil]
end Go.Val

/- part P29 -/
/- Plain lemmas: the builder makes the table. -/
namespace Go.Val
set_option linter.unusedVariables false
theorem room_g {n : Nat} (h : n ≤ 1000000) {sz : Nat} (hs : sz ≤ 1000000) : room sz n = some () := room_ok (by
  have : n * sz ≤ 1000000 * 1000000 := Nat.mul_le_mul h hs
  omega)
theorem drop_head {s : Str} {g : Nat} {c : UInt8} {t : Str} (h : s.drop g = c :: t) : s[g]? = some c := by
  have := congrArg (fun l => l[0]?) h
  simpa using this
theorem find_cut {c : UInt8} {ds : List Str} : (if cutN c ds < ds.length then (cutN c ds : Int) else -1) = find (fun s => !hasL c s) ds := rfl
theorem findIdx_map {α β : Type} {f : α → β} {p : β → Bool} : ∀ {l : List α}, (l.map f).findIdx p = l.findIdx (fun x => p (f x))
  | [] => rfl
  | x :: l => by rw [List.map_cons, List.findIdx_cons, List.findIdx_cons, findIdx_map]
def Maker (k : Nat) : Prop := ∀ (T : List (List Str)) (texts : List Str) (g : Nat), (∀ s ∈ texts, g ≤ s.length ∧ s.length ≤ 1000) → Low k (texts.map (List.drop g)) → Good T → (∀ f ∈ T, Ri f) → Ri (texts.map (List.drop g)) → texts.length ≤ 1000 → T.length + 1 + tot (texts.map (List.drop g)) ≤ 1000000 →
    dawg_builder_state.r k (bOf T) texts (g : Int) = some (((adds k T (texts.map (List.drop g))).idxOf (texts.map (List.drop g)) : Int), bOf (adds k T (texts.map (List.drop g))))
/-- One group of the builder's loop. -/
theorem b_step {k : Nat} (hk : Maker k) {e : List Str} {T U : List (List Str)} (hl : Low (k + 1) e) (hg : Good T) (hT : ∀ f ∈ T, Ri f) (he : Ri e) (hn : e.length ≤ 1000) (hb : T.length + 1 + tot e ≤ 1000000) (hU : tabAt k e T 256 = U) {g : Nat} (fin : Bool)
    {R : List Str} {s : Str} {c : UInt8} {t : Str} (hs : s.drop g = c :: t) (hR : Ri ((s :: R).map (List.drop g))) (hRn : (s :: R).length ≤ 1000) (hlong : ∀ x ∈ s :: R, x.length ≤ 1000) (hne : ∀ d ∈ (s :: R).map (List.drop g), d ≠ []) (hbe : beh e c = beh ((s :: R).map (List.drop g)) c) :
    dawg_builder_state.b1 (dawg_builder_state.r k) (g : Int) fin (s :: R, (letters.take c.toNat).filterMap (rowf U e), (graphT (tabAt k e T c.toNat)).Final, (graphT (tabAt k e T c.toNat)).Edges, known (tabAt k e T c.toNat)) =
      some (.next ((s :: R).drop (cutN c ((s :: R).map (List.drop g))), (letters.take (c.toNat + 1)).filterMap (rowf U e), (graphT (tabAt k e T (c.toNat + 1))).Final, (graphT (tabAt k e T (c.toNat + 1))).Edges, known (tabAt k e T (c.toNat + 1)))) := by
  have hc := c.toNat_lt
  have hg1 : g < 1000 := by
    have h1 := hlong s (by simp)
    have h2 := congrArg List.length hs
    rw [List.length_drop, List.length_cons] at h2
    omega
  generalize hds : (s :: R).map (List.drop g) = ds at hR hne hbe ⊢
  have hdl : ds.length = (s :: R).length := by rw [← hds, List.length_map]
  have hcut := cutN_le (c := c) (ds := ds)
  have hcons : ds = (c :: t) :: R.map (List.drop g) := by rw [← hds, List.map_cons, hs]
  have hcut0 : 0 < cutN c ds := by
    rw [hcons]
    unfold cutN
    rw [List.findIdx_cons]
    simp [hasL]
  rw [dawg_builder_state.b1, if_pos (by simp)]
  rw [show (s :: R)[0]? = some s from rfl, Option.bind_some, idx_nat, drop_head hs, Option.bind_some]
  have hidx : slices_IndexFunc_string_string (s :: R) (fun x0 => dawg_builder_state_1 x0 (g : Int) c) = some (find (fun x => !hasL c (x.drop g)) (s :: R)) := IndexFunc_str (fun x hx => by
    have hm : x.drop g ∈ ds := by rw [← hds]; exact List.mem_map_of_mem hx
    have := hne _ hm
    cases hd : x.drop g with
    | nil => exact absurd hd this
    | cons d u =>
      rw [label_f (drop_head hd)]
      have : hasL c (d :: u) = (d == c) := by unfold hasL; rw [List.head?_cons]; rfl
      rw [this]
      congr 1
      show ((d.toNat : Int) != (c.toNat : Int)) = !(d == c)
      rw [bne, ← lab_eq]) (by omega)
  have hfx : (s :: R).findIdx (fun x => !hasL c (x.drop g)) = cutN c ds := by
    unfold cutN; rw [← hds, findIdx_map]
  rw [hidx, Option.bind_some]
  unfold find
  rw [hfx]
  have hk4 : dawg_builder_state.k4 (dawg_builder_state.r k) (g : Int) (s :: R) ((letters.take c.toNat).filterMap (rowf U e)) (graphT (tabAt k e T c.toNat)).Final (graphT (tabAt k e T c.toNat)).Edges (known (tabAt k e T c.toNat)) c (cutN c ds : Int) = some (.next ((s :: R).drop (cutN c ds), (letters.take (c.toNat + 1)).filterMap (rowf U e), (graphT (tabAt k e T (c.toNat + 1))).Final, (graphT (tabAt k e T (c.toNat + 1))).Edges, known (tabAt k e T (c.toNat + 1)))) := by
    unfold dawg_builder_state.k4
    have hch : cutH (s :: R) (cutN c ds : Int) = some ((s :: R).take (cutN c ds)) := by
      unfold cutH; rw [if_pos (by omega)]; rfl
    have hcl : cutL (s :: R) (cutN c ds : Int) = some ((s :: R).drop (cutN c ds)) := by
      unfold cutL; rw [if_pos (by omega)]; rfl
    have htk : ((s :: R).take (cutN c ds)).map (List.drop (g + 1)) = beh e c := by
      rw [hbe]
      conv => rhs; rw [← List.take_append_drop (cutN c ds) ds]
      rw [beh_app, beh_all cutN_lo, beh_none (l := ds.drop (cutN c ds)) (fun x hx => by
        rw [hcons] at hx
        obtain ⟨d, u, rfl, hd⟩ := cutN_hi (hcons ▸ hR) (fun y hy => hne y (by rw [hcons]; exact List.mem_cons_of_mem _ hy)) x hx
        unfold hasL
        rw [List.head?_cons]
        have : d ≠ c := fun e => by subst e; omega
        simpa using this), List.append_nil, ← hds, ← List.map_take, List.map_map]
      apply List.map_congr_left
      intro x _
      simp [List.tail_drop]
    have hgl := tabAt_good hl hg c.toNat (by omega)
    have hbh : beh e c ≠ [] := by
      intro h
      have : c :: t ∈ e → False := fun hm => by rw [← mem_beh, h] at hm; cases hm
      have : t ∈ beh e c := by rw [hbe, mem_beh, hcons]; simp
      rw [h] at this; cases this
    have hlen := tabAt_len (T := T) hl c.toNat (by omega)
    have hsum := sum_take (e := e) hc
    rw [UInt8.ofNat_toNat] at hsum
    have hpos := List.length_pos_iff.2 hbh
    have hw : wt e c = tot (beh e c) + (beh e c).length := rfl
    have hsub := hk (tabAt k e T c.toNat) ((s :: R).take (cutN c ds)) (g + 1) (fun x hx => by
      have hm : x.drop g ∈ ds := by rw [← hds]; exact List.mem_map_of_mem (List.mem_of_mem_take hx)
      have := hne _ hm
      have : 0 < (x.drop g).length := List.length_pos_iff.2 this
      rw [List.length_drop] at this
      exact ⟨by omega, hlong x (List.mem_of_mem_take hx)⟩) (by rw [htk]; exact hl.beh hbh) hgl (tabAt_all (P := Ri) (fun e c h => h.beh c) hT he _ (by omega)) (by rw [htk]; exact he.beh c) (by rw [List.length_take]; omega) (by rw [htk]; omega)
    rw [htk] at hsub
    have hst : tabAt k e T (c.toNat + 1) = adds k (tabAt k e T c.toNat) (beh e c) := by
      rw [tabAt_succ hc]
      unfold fstep
      rw [UInt8.ofNat_toNat, if_neg hbh]
    have hin := (adds_good k _ _ (hl.beh hbh) hgl).2.1
    obtain ⟨V, hV⟩ := tabAt_grow hl hg (n := c.toNat + 1) (255 - c.toNat) (by omega)
    rw [show c.toNat + 1 + (255 - c.toNat) = 256 by omega, hU, hst] at hV
    have hr : rowf U e c = some ⟨c, ((adds k (tabAt k e T c.toNat) (beh e c)).idxOf (beh e c) : Int)⟩ := by
      unfold rowf; rw [if_neg hbh, hV, idxOf_app hin]
    have hrl : ((letters.take c.toNat).filterMap (rowf U e)).length ≤ 256 := Nat.le_trans (List.length_filterMap_le _ _) (by rw [List.length_take, letters_len]; omega)
    have hla := letters_at hc
    rw [UInt8.ofNat_toNat] at hla
    rw [hch, Option.bind_some]
    rw [show IntKind.i64.wrap ((g : Int) + 1) = ((g + 1 : Nat) : Int) from w64s (by omega)]
    rw [show Int.toNat (cutN c ds : Int) = cutN c ds from rfl]
    have hsub2 : dawg_builder_state.r k ⟨⟨(graphT (tabAt k e T c.toNat)).Final, (graphT (tabAt k e T c.toNat)).Edges⟩, known (tabAt k e T c.toNat)⟩ ((s :: R).take (cutN c ds)) ((g + 1 : Nat) : Int) = _ := hsub
    rw [hsub2, Option.bind_some, room_g (by omega) (by omega), Option.bind_some, hcl, Option.bind_some, hst, take_snoc hla, List.filterMap_append, List.filterMap_cons_some hr]
    rfl
  by_cases hlt : cutN c ds < (s :: R).length
  · rw [if_pos hlt, if_neg (by rw [decide_eq_true_eq]; omega), hk4]
  · rw [if_neg hlt, if_pos (by decide)]
    rw [show (s :: R).length = cutN c ds by omega]
    exact hk4
end Go.Val

/- part P30 -/
/- Plain lemmas: the builder makes the table: its loop, and the whole. -/
namespace Go.Val
set_option linter.unusedVariables false
theorem b_loop {k : Nat} (hk : Maker k) {e : List Str} {T U : List (List Str)} (hl : Low (k + 1) e) (hg : Good T) (hT : ∀ f ∈ T, Ri f) (he : Ri e) (hn : e.length ≤ 1000) (hb : T.length + 1 + tot e ≤ 1000000) (hU : tabAt k e T 256 = U) {g : Nat} (fin : Bool) :
    ∀ (m : Nat) (R : List Str) (n : Nat), R.length ≤ m → R.length ≤ 1000 → (∀ x ∈ R, x.length ≤ 1000) → n ≤ 256 → Ri (R.map (List.drop g)) → (∀ d ∈ R.map (List.drop g), ∃ c t, d = c :: t ∧ n ≤ c.toNat) → (∀ c : UInt8, n ≤ c.toNat → beh e c = beh (R.map (List.drop g)) c) →
      Loop (dawg_builder_state.b1 (dawg_builder_state.r k) (g : Int) fin) (R, (letters.take n).filterMap (rowf U e), (graphT (tabAt k e T n)).Final, (graphT (tabAt k e T n)).Edges, known (tabAt k e T n)) =
        dawg_builder_state.k2 fin (rowOf U e) (graphT U).Final (graphT U).Edges (known U)
  | m, [], n, _, _, _, hn2, hR, hne, hbe => by
    obtain ⟨i1, i2⟩ := tab_skip (k := k) (e := e) (T := T) (n := n) (256 - n) (by omega) fun c h1 _ => by rw [hbe c h1]; rfl
    rw [show n + (256 - n) = 256 by omega] at i1 i2
    rw [← i1, ← i2 U, hU]
    apply Loop_end
    rw [dawg_builder_state.b1, if_neg (by decide)]
    rw [show (letters.take 256).filterMap (rowf U e) = rowOf U e by rw [List.take_of_length_le (by rw [letters_len]; omega)]; rfl]
  | 0, s :: R, n, hm, _, _, hn2, hR, hne, hbe => by simp at hm
  | m + 1, s :: R, n, hm, hRn, hlen, hn2, hR, hne, hbe => by
    obtain ⟨c, t, hs, hnc⟩ := hne (s.drop g) (by simp)
    have hc := c.toNat_lt
    obtain ⟨i1, i2⟩ := tab_skip (k := k) (e := e) (T := T) (n := n) (c.toNat - n) (by omega) fun d h1 h2 => by
      rw [hbe d h1]
      refine beh_none fun x hx => ?_
      obtain ⟨b, u, rfl, _⟩ := hne x hx
      have hcb : c.toNat ≤ b.toNat := by
        rw [List.map_cons, hs] at hR hx
        rcases List.mem_cons.1 hx with q | q
        · injection q with q1 q2; subst q1; exact Nat.le_refl _
        · exact bl_head ((List.pairwise_cons.1 hR).1 _ q)
      unfold hasL
      rw [List.head?_cons]
      have : b ≠ d := fun e => by subst e; omega
      simpa using this
    rw [show n + (c.toNat - n) = c.toNat by omega] at i1 i2
    rw [← i1, ← i2 U]
    have hcut := cutN_le (c := c) (ds := (s :: R).map (List.drop g))
    have hcons : (s :: R).map (List.drop g) = (c :: t) :: R.map (List.drop g) := by rw [List.map_cons, hs]
    have hcut0 : 0 < cutN c ((s :: R).map (List.drop g)) := by
      rw [hcons]
      unfold cutN
      rw [List.findIdx_cons]
      simp [hasL]
    rw [Loop_next (b_step hk hl hg hT he hn hb hU fin hs hR hRn hlen (fun d hd => by obtain ⟨b, u, rfl, _⟩ := hne d hd; simp) (hbe c hnc))]
    have hhi := cutN_hi (hcons ▸ hR) (fun y hy => by
      obtain ⟨b, u, rfl, _⟩ := hne y (by rw [hcons]; exact List.mem_cons_of_mem _ hy)
      simp)
    rw [← hcons] at hhi
    refine b_loop hk hl hg hT he hn hb hU fin m _ (c.toNat + 1) ?_ ?_ (fun x hx => hlen x (List.mem_of_mem_drop hx)) (by omega) ?_ ?_ ?_
    · rw [List.length_drop]; have : (s :: R).length = R.length + 1 := rfl; omega
    · rw [List.length_drop]; omega
    · rw [List.map_drop]; exact List.Pairwise.sublist (List.drop_sublist _ _) hR
    · intro d hd
      rw [List.map_drop] at hd
      obtain ⟨b, u, rfl, hb2⟩ := hhi d hd
      exact ⟨b, u, rfl, hb2⟩
    · intro d hd
      rw [List.map_drop, hbe d (by omega)]
      conv => lhs; rw [← List.take_append_drop (cutN c ((s :: R).map (List.drop g))) ((s :: R).map (List.drop g))]
      rw [beh_app, beh_none (l := List.take _ _) (fun x hx => hasL_lt (cutN_lo x hx) (fun e => by subst e; omega)), List.nil_append]
theorem adds_mem {k : Nat} {T : List (List Str)} {e : List Str} (h : e ∈ T) : adds k T e = T := by
  cases k with
  | zero => rfl
  | succ k => rw [adds_succ, if_pos h]
theorem tabAt_mem {k : Nat} {T : List (List Str)} {e : List Str} (hg : Good T) (h : e ∈ T) : ∀ n, n ≤ 256 → tabAt k e T n = T
  | 0, _ => rfl
  | n + 1, hn => by
    rw [tabAt_succ (by omega), tabAt_mem hg h n (by omega)]
    unfold fstep
    by_cases hc : beh e (UInt8.ofNat n) = []
    · rw [if_pos hc]
    · rw [if_neg hc, adds_mem (hg.mem h _ hc)]
/-- The end of the builder's step, whether the state is known or not. -/
theorem b_end {k : Nat} {e : List Str} {T U : List (List Str)} (hl : Low (k + 1) e) (hg : Good T) (hT : ∀ f ∈ T, Ri f) (he : Ri e) (hb : T.length + 1 + tot e ≤ 1000000) (hU : tabAt k e T 256 = U) :
    dawg_builder_state.k2 (finOf e) (rowOf U e) (graphT U).Final (graphT U).Edges (known U) = some (((adds (k + 1) T e).idxOf e : Int), bOf (adds (k + 1) T e)) := by
  rw [adds_succ]
  by_cases hm : e ∈ T
  · rw [tabAt_mem hg hm 256 (Nat.le_refl _)] at hU
    subst hU
    rw [if_pos hm]
    exact b_k2_has hg (by omega) hT hm
  · rw [if_neg hm, ← tabAt_last, hU]
    have hgU : Good U := by rw [← hU]; exact tabAt_good hl hg 256 (Nat.le_refl _)
    have hrU : ∀ f ∈ U, Ri f := by rw [← hU]; exact tabAt_all (P := Ri) (fun e c h => h.beh c) hT he 256 (Nat.le_refl _)
    have hlen := tabAt_len (T := T) hl 256 (Nat.le_refl _)
    have hsum := wt_sum letters_nodup e
    rw [List.take_of_length_le (by rw [letters_len]; omega : letters.length ≤ 256), hU] at hlen
    have hne : e ∉ U := by
      obtain ⟨V, hV, hV2⟩ := tabAt_low hl hg 256 (Nat.le_refl _)
      rw [← hU, hV]; intro h
      rcases List.mem_append.1 h with h | h
      · exact hm h
      · exact absurd (hV2 e h) (Nat.lt_irrefl _)
    rw [b_k2_new hgU (by omega) hrU hne he fun c hc => by rw [← hU]; exact tabAt_has hl hg c hc]
    rw [List.idxOf_append, if_neg hne]
    simp
theorem maker_all : ∀ k, Maker k
  | 0 => fun T texts g _ hl => by have := hl.1; omega
  | k + 1 => fun T texts g hlen hl hg hT he hn hb => by
    have hk := maker_all k
    rw [dawg_builder_state.r]
    have he1 : (texts.map (List.drop g)).length ≤ 1000 := by rw [List.length_map]; exact hn
    have hfin : (if decide ((texts.length : Int) > 0) = true then (texts[0]?).bind fun s => some ((s.length : Int) == (g : Int)) else some false) = some (finOf (texts.map (List.drop g))) := by
      cases texts with
      | nil => rfl
      | cons s R =>
        rw [if_pos (by simp), show (s :: R)[0]? = some s from rfl, Option.bind_some]
        congr 1
        have := (hlen s (by simp)).1
        unfold finOf
        rw [List.map_cons, List.head?_cons]
        by_cases h : s.length = g
        · have hd : s.drop g = [] := List.drop_eq_nil_of_le (by omega)
          rw [hd, h]; simp
        · have hd : s.drop g ≠ [] := fun h2 => h (by have := List.drop_eq_nil_iff.1 h2; omega)
          rw [beq_eq_false_iff_ne.2 (by omega)]
          cases hd2 : s.drop g with
          | nil => exact absurd hd2 hd
          | cons c t => rfl
    rw [hfin, Option.bind_some]
    have h0 : tabAt k (texts.map (List.drop g)) T 0 = T := rfl
    cases texts with
    | nil =>
      have h1 := b_loop hk hl hg hT he he1 hb rfl (g := g) (finOf (([] : List Str).map (List.drop g))) 0 [] 0 (by simp) (by simp) (fun x hx => by cases hx) (by omega) List.Pairwise.nil (fun d hd => by cases hd) (fun c _ => rfl)
      rw [h0] at h1
      have hf : ¬ finOf (([] : List Str).map (List.drop g)) = true := by show ¬ (false = true); exact Bool.false_ne_true
      rw [if_neg hf]
      unfold dawg_builder_state.k1
      refine Eq.trans h1 (b_end hl hg hT he hb rfl)
    | cons s R =>
      by_cases hs : s.drop g = []
      · have hf : finOf ((s :: R).map (List.drop g)) = true := by rw [List.map_cons, hs]; rfl
        have hR := List.pairwise_cons.1 (by rw [List.map_cons, hs] at he; exact he : List.Pairwise (fun a b => Op.bytesLess a b = true) ([] :: R.map (List.drop g)))
        have h1 := b_loop hk hl hg hT he he1 hb rfl (g := g) true R.length R 0 (Nat.le_refl _) (by simp at hn; omega) (fun x hx => (hlen x (by simp [hx])).2) (by omega) hR.2 (fun d hd => by
          have := hR.1 d hd
          cases d with
          | nil => simp [Op.bytesLess] at this
          | cons c t => exact ⟨c, t, rfl, Nat.zero_le _⟩) (fun c _ => by
          rw [List.map_cons, hs, show (([] : Str) :: R.map (List.drop g)) = [[]] ++ R.map (List.drop g) from rfl, beh_app]
          rfl)
        rw [h0] at h1
        rw [hf, if_pos rfl]
        have hcl : cutL (s :: R) (1 : Int) = some R := by unfold cutL; rw [if_pos (by simp; omega)]; rfl
        rw [hcl, Option.bind_some]
        unfold dawg_builder_state.k1
        have h2 := b_end hl hg hT he hb rfl
        rw [hf] at h2
        exact Eq.trans h1 h2
      · have hf : finOf ((s :: R).map (List.drop g)) = false := by
          rw [List.map_cons]
          unfold finOf
          rw [List.head?_cons]
          cases hd : s.drop g with
          | nil => exact absurd hd hs
          | cons c t => rfl
        obtain ⟨c, t, hct⟩ : ∃ c t, s.drop g = c :: t := by
          cases hd : s.drop g with
          | nil => exact absurd hd hs
          | cons c t => exact ⟨c, t, rfl⟩
        have h1 := b_loop hk hl hg hT he he1 hb rfl (g := g) false (s :: R).length (s :: R) 0 (Nat.le_refl _) hn (fun x hx => (hlen x hx).2) (by omega) he (fun d hd => by
          rw [List.map_cons, hct] at he hd
          rcases List.mem_cons.1 hd with rfl | hd
          · exact ⟨c, t, rfl, Nat.zero_le _⟩
          · have := (List.pairwise_cons.1 he).1 d hd
            cases d with
            | nil => simp [Op.bytesLess] at this
            | cons b u => exact ⟨b, u, rfl, Nat.zero_le _⟩) (fun c _ => rfl)
        rw [h0] at h1
        rw [hf, if_neg (by decide)]
        unfold dawg_builder_state.k1
        have h2 := b_end hl hg hT he hb rfl
        rw [hf] at h2
        exact Eq.trans h1 h2
end Go.Val

/- part P31 -/
/- Plain lemmas: DawgBuilds. -/
namespace Go.Val
set_option linter.unusedVariables false
theorem adds_fuel : ∀ (k : Nat) (T : List (List Str)) (e : List Str), Low k e → adds (k + 1) T e = adds k T e
  | 0, T, e, hl => by have := hl.1; omega
  | k + 1, T, e, hl => by
    rw [adds_succ, adds_succ]
    have fold : ∀ (cs : List UInt8) (T : List (List Str)), cs.foldl (fstep (k + 1) e) T = cs.foldl (fstep k e) T := by
      intro cs
      induction cs with
      | nil => intro T; rfl
      | cons c cs ih =>
        intro T
        rw [List.foldl_cons, List.foldl_cons]
        have : fstep (k + 1) e T c = fstep k e T c := by
          unfold fstep
          by_cases hc : beh e c = []
          · rw [if_pos hc, if_pos hc]
          · rw [if_neg hc, if_neg hc, adds_fuel k T _ (hl.beh hc)]
        rw [this, ih]
    rw [fold]
theorem adds_fuels {k : Nat} {T : List (List Str)} {e : List Str} (hl : Low k e) : ∀ d, adds (k + d) T e = adds k T e
  | 0 => rfl
  | d + 1 => by rw [← Nat.add_assoc, adds_fuel _ _ _ ⟨by have := hl.1; omega, fun s hs => by have := hl.2 s hs; omega⟩, adds_fuels hl d]
/-- The table of a list of words. -/
def tabW (l : List Str) : List (List Str) := adds 65 [] l
theorem lenOk_iff {s : Str} : lenOk s = true ↔ 1 ≤ s.length ∧ s.length ≤ 64 := by
  unfold lenOk
  simp
  omega
theorem RiseP.low {l : List Str} (h : RiseP l) {k : Nat} (hk : 65 ≤ k) : Low k l := ⟨by omega, fun s hs => by have := (lenOk_iff.1 (h.1 s hs)).2; omega⟩
theorem tot_le {l : List Str} {n : Nat} (h : ∀ s ∈ l, s.length ≤ n) : tot l ≤ l.length * n := by
  induction l with
  | nil => simp [tot]
  | cons s l ih =>
    have h1 := ih fun x hx => h x (by simp [hx])
    have h2 := h s (by simp)
    unfold tot at h1 ⊢
    rw [List.map_cons, List.sum_cons, List.length_cons, Nat.succ_mul]
    omega
theorem RiseP.tot {l : List Str} (h : RiseP l) (hl : l.length ≤ 100) : Go.Val.tot l ≤ 6400 := by
  have := tot_le (l := l) (n := 64) fun s hs => (lenOk_iff.1 (h.1 s hs)).2
  have h2 : l.length * 64 ≤ 100 * 64 := Nat.mul_le_mul_right _ hl
  omega
theorem good_nil : Good [] := ⟨List.nodup_nil, fun i e h => by simp at h⟩
theorem Build_eq {l : List Str} (h : RiseP l) (hl : l.length ≤ 100) : dawg_Build l = some (graphT (tabW l), 0) := by
  unfold dawg_Build
  rw [(dawg_rise_eq (by omega)).1 h, Option.bind_some, if_neg (by decide)]
  have hm : l.map (List.drop 0) = l := by rw [show (List.drop 0 : Str → Str) = id from funext fun s => rfl, List.map_id]
  have ht := h.tot hl
  have hs : dawg_builder_state ⟨⟨[], []⟩, []⟩ l 0 = some (((tabW l).idxOf l : Int), bOf (tabW l)) := lim_eq 65 fun k hk => by
    obtain ⟨d, rfl⟩ : ∃ d, k = 65 + d := ⟨k - 65, by omega⟩
    have := maker_all (65 + d) [] l 0 (fun s hs => ⟨Nat.zero_le _, by have := (lenOk_iff.1 (h.1 s hs)).2; omega⟩) (by rw [hm]; exact h.low (by omega)) good_nil (fun f hf => by cases hf) (by rw [hm]; exact h.ri) (by omega) (by rw [hm]; simp; omega)
    rw [hm, adds_fuels (h.low (Nat.le_refl _))] at this
    exact this
  rw [hs, Option.bind_some]
  rfl
theorem refBuild_eq {l : List Str} (h : RiseP l) (hl : l.length ≤ 100) : scansionref17_Build l = some (graphT (tabW l), 0) := by
  unfold scansionref17_Build
  rw [(ref_right_eq (by omega)).1 h, Option.bind_some, if_neg (by decide)]
  have ht := h.tot hl
  have hs : scansionref17_maker_state ⟨⟨[], []⟩, []⟩ l = some (((tabW l).idxOf l : Int), mkOf (tabW l)) := lim_eq 65 fun k hk => by
    obtain ⟨d, rfl⟩ : ∃ d, k = 65 + d := ⟨k - 65, by omega⟩
    have := maker_run (65 + d) [] l (h.low (by omega)) good_nil (fun f hf => by cases hf) (fun s hs => by have := (lenOk_iff.1 (h.1 s hs)).2; omega) (by omega) (by simp; omega)
    rw [adds_fuels (h.low (Nat.le_refl _))] at this
    exact this
  rw [hs, Option.bind_some]
  rfl
theorem tabW_len {l : List Str} (h : RiseP l) (hl : l.length ≤ 100) : (tabW l).length ≤ 6401 := by
  have h1 := adds_len 65 [] l (h.low (Nat.le_refl _))
  have h2 := h.tot hl
  unfold tabW; simp at h1; omega
theorem graphT_self {T : List (List Str)} (hT : T.length ≤ 1000000) : scansionref17_Same (graphT T) (graphT T) = some true := Same_self (by simp [graphT]; exact hT) (by simp [graphT]; exact hT) (fun xs hx => by
  simp [graphT] at hx
  obtain ⟨e, _, rfl⟩ := hx
  exact Nat.le_trans row_len (by omega))
theorem DawgBuilds_of (l : List Str) : scansionlaw17_DawgBuilds l = some true := by
  unfold scansionlaw17_DawgBuilds
  obtain ⟨b, hb, hb2⟩ := few_eq l
  rw [awake17, Option.bind_some, hb, Option.bind_some]
  cases b with
  | false => rfl
  | true =>
    obtain ⟨hl, _⟩ := hb2 rfl
    rw [if_neg (by decide)]
    by_cases h : RiseP l
    · have := tabW_len h (by omega)
      rw [Build_eq h (by omega), refBuild_eq h (by omega), Option.bind_some, Option.bind_some, graphT_self (by omega)]
      rfl
    · unfold dawg_Build scansionref17_Build
      rw [(dawg_rise_eq (by omega)).2 h, (ref_right_eq (by omega)).2 h]
      simp only [Option.bind_some, Bool.not_false, if_true]
      have : scansionref17_Same ⟨[], []⟩ ⟨[], []⟩ = some true := Same_self (by simp) (by simp) (fun xs hx => by simp at hx)
      rw [this]
      rfl
end Go.Val

/- part P32 -/
/- Plain lemmas: a rising list, letter by letter. -/
namespace Go.Val
set_option linter.unusedVariables false
theorem letters_rise : List.Pairwise (fun a b : UInt8 => a.toNat < b.toNat) letters := by
  unfold letters
  rw [List.pairwise_map]
  refine List.Pairwise.imp_of_mem (fun {a b} ha hb hab => ?_) List.pairwise_lt_range
  have ha := List.mem_range.1 ha
  have hb := List.mem_range.1 hb
  simp
  omega
def grp (e : List Str) (c : UInt8) : List Str := (beh e c).map (c :: ·)
theorem Ri.parts {e : List Str} (h : Ri e) : e = (if finOf e then [[]] else []) ++ letters.flatMap (grp e) := by
  refine h.ext ?_ fun s => ?_
  · unfold Ri
    rw [List.pairwise_append]
    refine ⟨by split <;> simp, ?_, ?_⟩
    · rw [List.pairwise_flatMap]
      refine ⟨fun c _ => ?_, ?_⟩
      · unfold grp
        rw [List.pairwise_map]
        exact List.Pairwise.imp (fun {a b} hab => by rw [bl_cons]; exact hab) (h.beh c)
      · refine List.Pairwise.imp (fun {c d} hcd x hx y hy => ?_) letters_rise
        unfold grp at hx hy
        obtain ⟨a, _, rfl⟩ := List.mem_map.1 hx
        obtain ⟨b, _, rfl⟩ := List.mem_map.1 hy
        simp only [Op.bytesLess, Bool.or_eq_true, decide_eq_true_eq]
        left; rw [UInt8.lt_iff_toNat_lt]; exact hcd
    · intro x hx y hy
      have hx0 : x = [] := by
        split at hx
        · simpa using hx
        · cases hx
      subst hx0
      obtain ⟨c, _, hy⟩ := List.mem_flatMap.1 hy
      unfold grp at hy
      obtain ⟨b, _, rfl⟩ := List.mem_map.1 hy
      rfl
  · rw [List.mem_append, List.mem_flatMap]
    cases s with
    | nil =>
      rw [← h.fin]
      constructor
      · intro hf; left; rw [hf]; simp
      · rintro (hf | ⟨c, _, hc⟩)
        · split at hf
          · assumption
          · cases hf
        · unfold grp at hc
          obtain ⟨b, _, hb⟩ := List.mem_map.1 hc
          cases hb
    | cons c t =>
      rw [← mem_beh]
      constructor
      · intro hm; right; exact ⟨c, letters_mem c, List.mem_map.2 ⟨t, hm, rfl⟩⟩
      · rintro (hf | ⟨d, _, hd⟩)
        · split at hf
          · simp at hf
          · cases hf
        · unfold grp at hd
          obtain ⟨b, hb, hb2⟩ := List.mem_map.1 hd
          injection hb2 with q1 q2
          subst q1; subst q2; exact hb
theorem map_sum_congr {α : Type} {f g : α → Nat} : ∀ {l : List α}, (∀ x ∈ l, f x = g x) → (l.map f).sum = (l.map g).sum
  | [], _ => rfl
  | x :: l, h => by rw [List.map_cons, List.map_cons, List.sum_cons, List.sum_cons, h x (by simp), map_sum_congr fun y hy => h y (by simp [hy])]
theorem Ri.len {e : List Str} (h : Ri e) : e.length = (if finOf e then 1 else 0) + (letters.map fun c => (Go.Val.beh e c).length).sum := by
  have := congrArg List.length h.parts
  rw [List.length_append, List.length_flatMap] at this
  have h2 : (letters.map fun c => (grp e c).length).sum = (letters.map fun c => (Go.Val.beh e c).length).sum := map_sum_congr fun c _ => by unfold grp; rw [List.length_map]
  have h3 : (if finOf e = true then [[]] else ([] : List Str)).length = if finOf e then 1 else 0 := by split <;> rfl
  rw [h3] at this
  rw [← h2]
  exact this
/-- How many texts of a list lie below one. -/
def rank (e : List Str) (w : Str) : Nat := e.countP fun s => Op.bytesLess s w
theorem rank_nil {e : List Str} : rank e [] = 0 := by
  unfold rank
  rw [List.countP_eq_zero]
  intro s hs h
  cases s <;> simp [Op.bytesLess] at h
theorem sum_at {cs : List UInt8} {c : UInt8} {f g : UInt8 → Nat} {m : Nat} (hn : cs.Nodup) (h1 : ∀ d, d ≠ c → f d = g d) (h2 : f c = g c + m) : (cs.map f).sum = (cs.map g).sum + if c ∈ cs then m else 0 := by
  induction cs with
  | nil => simp
  | cons d cs ih =>
    rw [List.nodup_cons] at hn
    rw [List.map_cons, List.map_cons, List.sum_cons, List.sum_cons, ih hn.2]
    by_cases e : d = c
    · subst e
      rw [h2, if_neg hn.1, if_pos (by simp)]; omega
    · rw [h1 d e]
      by_cases hm : c ∈ cs
      · rw [if_pos hm, if_pos (by simp [hm])]; omega
      · rw [if_neg hm, if_neg (by simp [hm, Ne.symm e])]; omega
theorem Ri.rank {e : List Str} (h : Ri e) (c : UInt8) (w : Str) : Go.Val.rank e (c :: w) = (if finOf e then 1 else 0) + (letters.map fun d => if d.toNat < c.toNat then (Go.Val.beh e d).length else 0).sum + Go.Val.rank (Go.Val.beh e c) w := by
  have h1 : Go.Val.rank e (c :: w) = ((if finOf e then [[]] else []) ++ letters.flatMap (grp e)).countP fun s => Op.bytesLess s (c :: w) := by
    rw [← h.parts]; rfl
  rw [h1, List.countP_append, List.countP_flatMap]
  have hg : ∀ d, (grp e d).countP (fun s => Op.bytesLess s (c :: w)) = (Go.Val.beh e d).countP fun s => Op.bytesLess (d :: s) (c :: w) := fun d => by
    unfold grp; rw [List.countP_map]; rfl
  have h2 := sum_at (cs := letters) (c := c) (f := fun d => (grp e d).countP fun s => Op.bytesLess s (c :: w)) (g := fun d => if d.toNat < c.toNat then (Go.Val.beh e d).length else 0) (m := Go.Val.rank (Go.Val.beh e c) w) letters_nodup (fun d hd => by
    have hne : d.toNat ≠ c.toNat := fun e => hd (UInt8.toNat_inj.1 e)
    rw [hg d]
    by_cases hlt : d.toNat < c.toNat
    · rw [if_pos hlt, List.countP_eq_length]
      intro s _
      simp only [Op.bytesLess, Bool.or_eq_true, decide_eq_true_eq]
      left; rw [UInt8.lt_iff_toNat_lt]; exact hlt
    · rw [if_neg hlt, List.countP_eq_zero]
      intro s _
      simp only [Op.bytesLess, Bool.or_eq_true, Bool.and_eq_true, decide_eq_true_eq, beq_iff_eq]
      rintro (h | ⟨h, _⟩)
      · rw [UInt8.lt_iff_toNat_lt] at h; omega
      · exact hd h) (by
    rw [hg c, if_neg (Nat.lt_irrefl _), Nat.zero_add]
    unfold Go.Val.rank
    congr 1
    funext s
    rw [bl_cons])
  rw [if_pos (letters_mem c)] at h2
  have h3 : ∀ d : UInt8, ((List.countP fun s => Op.bytesLess s (c :: w)) ∘ grp e) d = (grp e d).countP fun s => Op.bytesLess s (c :: w) := fun d => rfl
  have h4 : (if finOf e = true then [[]] else ([] : List Str)).countP (fun s => Op.bytesLess s (c :: w)) = if finOf e then 1 else 0 := by split <;> rfl
  rw [map_sum_congr (fun d _ => h3 d), h2, h4, ← Nat.add_assoc]
/-- The place of a text in a rising list. -/
theorem Ri.rank_at {e : List Str} (h : Ri e) {i : Nat} {s : Str} (hi : e[i]? = some s) : Go.Val.rank e s = i := by
  have hlt := (List.getElem?_eq_some_iff.1 hi).1
  have hs := (List.getElem?_eq_some_iff.1 hi).2
  unfold Go.Val.rank
  have hp := List.pairwise_iff_getElem.1 h
  conv => lhs; rw [← List.take_append_drop i e]
  rw [List.countP_append]
  have h1 : (e.take i).countP (fun x => Op.bytesLess x s) = (e.take i).length := by
    rw [List.countP_eq_length]
    intro x hx
    obtain ⟨j, hj, rfl⟩ := List.getElem_of_mem hx
    rw [List.length_take] at hj
    rw [List.getElem_take, ← hs]
    exact hp j i (by omega) hlt (by omega)
  have h2 : (e.drop i).countP (fun x => Op.bytesLess x s) = 0 := by
    rw [List.countP_eq_zero]
    intro x hx
    obtain ⟨j, hj, rfl⟩ := List.getElem_of_mem hx
    rw [List.length_drop] at hj
    rw [List.getElem_drop, ← hs]
    by_cases h0 : j = 0
    · subst h0; simp only [Nat.add_zero]; rw [bl_irr]; simp
    · rw [bl_asym (hp i (i + j) hlt (by omega) (by omega))]; simp
  rw [h1, h2, List.length_take]; omega
end Go.Val

/- part P33 -/
/- Plain lemmas: the graph of a table: its steps, and what it has. -/
namespace Go.Val
set_option linter.unusedVariables false
theorem row_eq {T : List (List Str)} {e : List Str} : rowOf T e = letters.filterMap (rowf T e) := rfl
theorem rowf_some {T : List (List Str)} {e : List Str} {c : UInt8} {x : TEdge} (h : rowf T e c = some x) : x.Label = c ∧ x.To = (T.idxOf (beh e c) : Int) ∧ beh e c ≠ [] := by
  unfold rowf at h
  split at h
  · cases h
  · rename_i hc
    injection h with h
    subst h
    exact ⟨rfl, rfl, hc⟩
theorem row_rise {T : List (List Str)} {e : List Str} : List.Pairwise (fun x y : TEdge => x.Label.toNat < y.Label.toNat) (rowOf T e) := by
  rw [row_eq, List.pairwise_filterMap]
  refine List.Pairwise.imp (fun {a b} hab x hx y hy => ?_) letters_rise
  rw [(rowf_some hx).1, (rowf_some hy).1]; exact hab
theorem row_mem {T : List (List Str)} {e : List Str} {x : TEdge} (h : x ∈ rowOf T e) : x.To = (T.idxOf (beh e x.Label) : Int) ∧ beh e x.Label ≠ [] := by
  rw [row_eq, List.mem_filterMap] at h
  obtain ⟨c, _, hc⟩ := h
  obtain ⟨h1, h2, h3⟩ := rowf_some hc
  rw [h1]; exact ⟨h2, h3⟩
theorem idxOf_take {α : Type} [BEq α] [LawfulBEq α] {l : List α} {x : α} {i : Nat} (h : x ∈ l.take i) : l.idxOf x < i := by
  conv => lhs; rw [← List.take_append_drop i l]
  rw [idxOf_app h]
  have := List.idxOf_lt_length_iff.2 h
  rw [List.length_take] at this; omega
theorem Good.low {T : List (List Str)} (hg : Good T) {i : Nat} {e : List Str} (h : T[i]? = some e) {c : UInt8} (hc : Go.Val.beh e c ≠ []) : T.idxOf (Go.Val.beh e c) < i := idxOf_take (hg.beh i e h c hc)
theorem Good.idx {T : List (List Str)} (hg : Good T) {i : Nat} {e : List Str} (h : T[i]? = some e) : T.idxOf e = i := by
  have hlt := (List.getElem?_eq_some_iff.1 h).1
  have he := (List.getElem?_eq_some_iff.1 h).2
  have hm : e ∈ T := List.mem_of_getElem? h
  have h1 := List.idxOf_lt_length_iff.2 hm
  exact (List.getElem?_inj h1 hg.nodup).1 (by rw [List.getElem?_eq_getElem h1, List.getElem_idxOf, h])
theorem at_idx {T : List (List Str)} {e : List Str} (h : e ∈ T) : T[T.idxOf e]? = some e := by
  have h1 := List.idxOf_lt_length_iff.2 h
  rw [List.getElem?_eq_getElem h1, List.getElem_idxOf]
theorem graph_right {T : List (List Str)} (hg : Good T) (h1 : 1 ≤ T.length) (h2 : T.length ≤ 65536) : RightP (graphT T) where
  lo := by simp [graphT]; exact h1
  hi := by simp [graphT]; exact h2
  len := by simp [graphT]
  rows := fun s hs xs hx k hk x hxk => by
    simp only [graphT, List.getElem?_map] at hx
    obtain ⟨e, he, rfl⟩ := Option.map_eq_some_iff.1 hx
    have hm := List.mem_of_getElem? hxk
    obtain ⟨q1, q2⟩ := row_mem hm
    have := hg.low he q2
    refine ⟨by omega, by omega, fun h0 x1 hx1 => ?_⟩
    obtain ⟨hk1, rfl⟩ := List.getElem?_eq_some_iff.1 hx1
    obtain ⟨_, rfl⟩ := List.getElem?_eq_some_iff.1 hxk
    exact List.pairwise_iff_getElem.1 row_rise (k - 1) k hk1 hk (by omega)
theorem graph_short {T : List (List Str)} : Short (graphT T) := fun xs hx => by
  simp [graphT] at hx
  obtain ⟨e, _, rfl⟩ := hx
  exact Nat.le_trans row_len (by omega)
theorem graph_300 {T : List (List Str)} : Rows300 (graphT T) := fun xs hx => by
  simp [graphT] at hx
  obtain ⟨e, _, rfl⟩ := hx
  exact Nat.le_trans row_len (by omega)
theorem at_find {α : Type} {p : α → Bool} : ∀ {xs : List α}, xs[xs.findIdx p]? = xs.find? p
  | [] => rfl
  | x :: xs => by
    rw [List.findIdx_cons, List.find?_cons]
    cases p x with
    | true => rfl
    | false => exact at_find
theorem row_find {T : List (List Str)} {e : List Str} {c : UInt8} : (rowOf T e).find? (isLab c) = rowf T e c := by
  rw [row_eq, List.find?_filterMap]
  by_cases hc : beh e c = []
  · have hn : rowf T e c = none := by unfold rowf; rw [if_pos hc]
    rw [hn]
    have : letters.find? (fun a => (rowf T e a).any (isLab c)) = none := by
      rw [List.find?_eq_none]
      intro d _ hd
      cases h : rowf T e d with
      | none => rw [h] at hd; cases hd
      | some x =>
        rw [h] at hd
        have hd : isLab c x = true := hd
        unfold isLab at hd
        rw [beq_iff_eq, (rowf_some h).1] at hd
        subst hd
        exact (rowf_some h).2.2 hc
    rw [this]; rfl
  · have hs : rowf T e c = some ⟨c, (T.idxOf (beh e c) : Int)⟩ := by unfold rowf; rw [if_neg hc]
    have hc1 : (rowf T e c).any (isLab c) = true := by rw [hs]; simp [isLab]
    cases h : letters.find? (fun a => (rowf T e a).any (isLab c)) with
    | none =>
      rw [List.find?_eq_none] at h
      exact absurd hc1 (h c (letters_mem c))
    | some d =>
      have hd := List.find?_some h
      cases h2 : rowf T e d with
      | none => rw [h2] at hd; cases hd
      | some x =>
        rw [h2] at hd
        have hd : isLab c x = true := hd
        unfold isLab at hd
        rw [beq_iff_eq, (rowf_some h2).1] at hd
        subst hd
        rfl
theorem next_T {T : List (List Str)} {i : Nat} {e : List Str} (h : T[i]? = some e) (c : UInt8) : nextS (graphT T) (i : Int) c = if beh e c = [] then none else some (T.idxOf (beh e c) : Int) := by
  unfold nextS
  have h1 : (graphT T).Edges[(i : Int).toNat]? = some (rowOf T e) := by
    simp [graphT, h]
  rw [h1, Option.bind_some, at_find, row_find]
  unfold rowf
  split <;> rfl
theorem fin_T {T : List (List Str)} {i : Nat} {e : List Str} (h : T[i]? = some e) : (graphT T).Final[(i : Int).toNat]? = some (finOf e) := by
  simp [graphT, h]
/-- Whether a word is led to an end: just if it is one of the ends. -/
theorem run_has {T : List (List Str)} (hg : Good T) (hr : ∀ f ∈ T, Ri f) : ∀ (w : Str) {i : Nat} {e : List Str}, T[i]? = some e → ((runS (graphT T) (i : Int) w).bind fun s => (graphT T).Final[s.toNat]?).getD false = decide (w ∈ e)
  | [], i, e, h => by
    rw [runS, Option.bind_some, fin_T h, Option.getD_some]
    have := (hr e (List.mem_of_getElem? h)).fin
    rw [Bool.eq_iff_iff, this, decide_eq_true_eq]
  | c :: w, i, e, h => by
    rw [runS, next_T h]
    by_cases hc : beh e c = []
    · rw [if_pos hc]
      have : ¬ (c :: w) ∈ e := by rw [← mem_beh, hc]; simp
      rw [decide_eq_false this]; rfl
    · rw [if_neg hc, Option.bind_some]
      have hm := hg.mem (List.mem_of_getElem? h) c hc
      rw [run_has hg hr w (at_idx hm)]
      rw [Bool.eq_iff_iff, decide_eq_true_eq, decide_eq_true_eq, mem_beh]
/-- The last state of a table is its list of words. -/
theorem tabW_last (l : List Str) : ∃ X, tabW l = X ++ [l] := by
  unfold tabW
  rw [adds_succ, if_neg (by simp)]
  exact ⟨_, rfl⟩
theorem tabW_at (l : List Str) : (tabW l)[(tabW l).length - 1]? = some l := by
  obtain ⟨X, hX⟩ := tabW_last l
  rw [hX]; simp
theorem tabW_good {l : List Str} (h : RiseP l) : Good (tabW l) := (adds_good 65 [] l (h.low (Nat.le_refl _)) good_nil).1
theorem tabW_ri {l : List Str} (h : RiseP l) : ∀ f ∈ tabW l, Ri f := adds_all (P := Ri) (fun e c h => h.beh c) 65 (fun f hf => by cases hf) h.ri
theorem tabW_right {l : List Str} (h : RiseP l) (hl : l.length ≤ 100) : RightP (graphT (tabW l)) := graph_right (tabW_good h) (by obtain ⟨X, hX⟩ := tabW_last l; rw [hX]; simp) (by have := tabW_len h hl; omega)
theorem start_T (T : List (List Str)) (h : 1 ≤ T.length) : ((graphT T).Final.length : Int) - 1 = ((T.length - 1 : Nat) : Int) := by
  simp [graphT]; omega
theorem tabW_pos (l : List Str) : 1 ≤ (tabW l).length := by obtain ⟨X, hX⟩ := tabW_last l; rw [hX]; simp
theorem has_T {l : List Str} (h : RiseP l) (w : Str) : hasS (graphT (tabW l)) w = decide (w ∈ l) := by
  unfold hasS
  rw [start_T _ (tabW_pos l)]
  exact run_has (tabW_good h) (tabW_ri h) w (tabW_at l)
theorem Has_T {l : List Str} (h : RiseP l) (hl : l.length ≤ 100) {w : Str} (hw : w.length ≤ 1000) : dawg_Has (graphT (tabW l)) w = some (decide (w ∈ l)) := by
  rw [dawg_Has_eq graph_short (tabW_right h hl) (by omega), has_T h]
end Go.Val

/- part P34 -/
/- Plain lemmas: the graph of a table: how many ends, which number, which word. -/
namespace Go.Val
set_option linter.unusedVariables false
theorem sumTo_T {T : List (List Str)} {e : List Str} {cs : List Int} (hc : ∀ c, beh e c ≠ [] → cs.getD (T.idxOf (beh e c)) 0 = ((beh e c).length : Int)) : ∀ {L : List UInt8} {a : Int}, sumTo cs a (L.filterMap (rowf T e)) = a + ((L.map fun c => (beh e c).length).sum : Nat)
  | [], a => by simp [sumTo]
  | c :: L, a => by
    rw [List.map_cons, List.sum_cons]
    by_cases h : beh e c = []
    · have hn : rowf T e c = none := by unfold rowf; rw [if_pos h]
      rw [List.filterMap_cons_none hn, sumTo_T hc, h]; simp
    · have hs : rowf T e c = some ⟨c, (T.idxOf (beh e c) : Int)⟩ := by unfold rowf; rw [if_neg h]
      rw [List.filterMap_cons_some hs]
      have e1 : ∀ (x : TEdge) xs, sumTo cs a (x :: xs) = sumTo cs (a + cs.getD x.To.toNat 0) xs := fun x xs => rfl
      rw [e1, sumTo_T hc]
      have := hc c h
      show a + cs.getD (T.idxOf (beh e c)) 0 + _ = _
      rw [this]; omega
theorem numRow_T {T : List (List Str)} {e : List Str} {cs : List Int} {c : UInt8} (hc : ∀ c, beh e c ≠ [] → cs.getD (T.idxOf (beh e c)) 0 = ((beh e c).length : Int)) : ∀ {L : List UInt8} {a : Int}, numRow cs a (L.filterMap (rowf T e)) c = a + ((L.map fun d => if d.toNat < c.toNat then (beh e d).length else 0).sum : Nat)
  | [], a => by simp [numRow]
  | d :: L, a => by
    rw [List.map_cons, List.sum_cons]
    by_cases h : beh e d = []
    · have hn : rowf T e d = none := by unfold rowf; rw [if_pos h]
      rw [List.filterMap_cons_none hn, numRow_T hc, h]; simp
    · have hs : rowf T e d = some ⟨d, (T.idxOf (beh e d) : Int)⟩ := by unfold rowf; rw [if_neg h]
      rw [List.filterMap_cons_some hs]
      have e1 : ∀ (x : TEdge) xs, numRow cs a (x :: xs) c = numRow cs (if x.Label.toNat < c.toNat then a + cs.getD x.To.toNat 0 else a) xs c := fun x xs => rfl
      rw [e1, numRow_T hc]
      have := hc d h
      show (if d.toNat < c.toNat then a + cs.getD (T.idxOf (beh e d)) 0 else a) + _ = _
      rw [this]
      split <;> omega
theorem cnt_T {T : List (List Str)} (hg : Good T) (hr : ∀ f ∈ T, Ri f) (h1 : 1 ≤ T.length) (h2 : T.length ≤ 65536) (hl : ∀ f ∈ T, f.length ≤ 1000000) : ∀ (N i : Nat) (e : List Str), i ≤ N → T[i]? = some e → (counts (rowsOf (graphT T))).getD i 0 = (e.length : Int) := by
  intro N
  induction N with
  | zero =>
    intro i e hi h
    obtain rfl : i = 0 := by omega
    have hrt := graph_right hg h1 h2
    have hb : ∀ c, beh e c = [] := fun c => Classical.byContradiction fun hc => by have := hg.low h hc; omega
    have hf : (graphT T).Final[0]? = some (finOf e) := by simp [graphT, h]
    have hx : (graphT T).Edges[0]? = some (rowOf T e) := by simp [graphT, h]
    rw [cnt_sum hrt hf hx, row_eq, sumTo_T (fun c hc => absurd (hb c) hc)]
    have hle := (hr e (List.mem_of_getElem? h)).len
    have hz : (letters.map fun c => (beh e c).length).sum = (letters.map fun _ => 0).sum := map_sum_congr fun c _ => by rw [hb c]; rfl
    have hll := hl e (List.mem_of_getElem? h)
    unfold mn cap
    cases hfe : finOf e <;> rw [hfe] at hle <;> simp only [if_true, Bool.false_eq_true, if_false] at hle ⊢ <;> rw [if_neg (by omega)] <;> omega
  | succ N ih =>
    intro i e hi h
    have hrt := graph_right hg h1 h2
    have hf : (graphT T).Final[i]? = some (finOf e) := by simp [graphT, h]
    have hx : (graphT T).Edges[i]? = some (rowOf T e) := by simp [graphT, h]
    have hm := List.mem_of_getElem? h
    rw [cnt_sum hrt hf hx, row_eq, sumTo_T (fun c hc => by
      have hlow := hg.low h hc
      exact ih _ _ (by omega) (at_idx (hg.mem hm c hc)))]
    have hle := (hr e hm).len
    have hll := hl e hm
    unfold mn cap
    cases hfe : finOf e <;> rw [hfe] at hle <;> simp only [if_true, Bool.false_eq_true, if_false] at hle ⊢ <;> rw [if_neg (by omega)] <;> omega
theorem beh_long {n : Nat} (e : List Str) (c : UInt8) (h : e.length ≤ n) : (beh e c).length ≤ n := Nat.le_trans beh_len h
theorem tabW_long {l : List Str} (hl : l.length ≤ 1000000) : ∀ f ∈ tabW l, f.length ≤ 1000000 := adds_all (P := fun e => e.length ≤ 1000000) (fun e c h => beh_long e c h) 65 (fun f hf => by cases hf) hl
theorem cnt_W {l : List Str} (h : RiseP l) (hl : l.length ≤ 100) {i : Nat} {e : List Str} (he : (tabW l)[i]? = some e) : (counts (rowsOf (graphT (tabW l)))).getD i 0 = (e.length : Int) :=
  cnt_T (tabW_good h) (tabW_ri h) (tabW_pos l) (by have := tabW_len h hl; omega) (tabW_long (by omega)) i i e (Nat.le_refl _) he
/-- The number of a word is its place. -/
theorem numA_T {l : List Str} (h : RiseP l) (hl : l.length ≤ 100) {w : Str} (hw : w ∈ l) : ∀ k, k ≤ w.length → ∃ (i : Nat) (f : List Str), (tabW l)[i]? = some f ∧ runS (graphT (tabW l)) (((graphT (tabW l)).Final.length : Int) - 1) (w.take k) = some (i : Int) ∧ w.drop k ∈ f ∧ numA (graphT (tabW l)) w k + (rank f (w.drop k) : Int) = (rank l w : Int)
  | 0, _ => ⟨(tabW l).length - 1, l, tabW_at l, by rw [start_T _ (tabW_pos l)]; rfl, hw, by simp [numA]⟩
  | k + 1, hk => by
    obtain ⟨i, f, h1, h2, h3, h4⟩ := numA_T h hl hw k (by omega)
    have hc : w[k]? = some w[k] := List.getElem?_eq_getElem (by omega)
    have hd : w.drop k = w[k] :: w.drop (k + 1) := List.drop_eq_getElem_cons (by omega)
    have hfm := List.mem_of_getElem? h1
    rw [hd] at h3
    have hb : beh f w[k] ≠ [] := fun h0 => by rw [← mem_beh, h0] at h3; cases h3
    have hm := (tabW_good h).mem hfm _ hb
    refine ⟨_, beh f w[k], at_idx hm, ?_, mem_beh.2 h3, ?_⟩
    · rw [run_take_next hc, h2, Option.bind_some, next_T h1, if_neg hb]
    · rw [hd, (tabW_ri h f hfm).rank] at h4
      rw [numA_succ]
      have hst : stOf (graphT (tabW l)) w k = (i : Int) := by unfold stOf; rw [h2]; rfl
      have hx : (graphT (tabW l)).Edges[(i : Int).toNat]? = some (rowOf (tabW l) f) := by simp [graphT, h1]
      rw [hst, fin_T h1, hx, Option.getD_some, Option.getD_some, row_eq]
      have hwk : w.getD k 0 = w[k] := by rw [List.getD_eq_getElem?_getD, hc]; rfl
      rw [hwk, numRow_T (fun c hc => cnt_W h hl (at_idx ((tabW_good h).mem hfm c hc)))]
      rw [← h4]
      cases finOf f <;> simp <;> omega
theorem num_T {l : List Str} (h : RiseP l) (hl : l.length ≤ 100) {i : Nat} {w : Str} (hi : l[i]? = some w) : dawg_Number (graphT (tabW l)) w = some ((i : Int), 0) := by
  have hw := List.mem_of_getElem? hi
  have hwl := (lenOk_iff.1 (h.1 w hw)).2
  rw [dawg_Number_eq graph_short graph_300 (tabW_right h hl) (by omega), has_T h, decide_eq_true hw, if_pos rfl]
  obtain ⟨j, f, _, _, _, h4⟩ := numA_T h hl hw w.length (Nat.le_refl _)
  rw [List.drop_length, rank_nil, h.ri.rank_at hi] at h4
  have hlt := (List.getElem?_eq_some_iff.1 hi).1
  unfold numS mn
  rw [if_neg (by omega)]
  congr 2
  omega
theorem flat_pick {T : List (List Str)} {e : List Str} {cs : List Int} (hc : ∀ c, beh e c ≠ [] → cs.getD (T.idxOf (beh e c)) 0 = ((beh e c).length : Int)) : ∀ {L : List UInt8} {n : Nat} {s : Str}, (L.flatMap (grp e))[n]? = some s → ∃ (m : Nat) (x : TEdge) (t : Str), pick cs (n : Int) (L.filterMap (rowf T e)) = some ((m : Int), x) ∧ x.To = (T.idxOf (beh e x.Label) : Int) ∧ beh e x.Label ≠ [] ∧ s = x.Label :: t ∧ (beh e x.Label)[m]? = some t
  | [], n, s, h => by simp at h
  | c :: L, n, s, h => by
    rw [List.flatMap_cons] at h
    have hgl : (grp e c).length = (beh e c).length := by unfold grp; rw [List.length_map]
    by_cases hb : beh e c = []
    · have hn : rowf T e c = none := by unfold rowf; rw [if_pos hb]
      rw [List.filterMap_cons_none hn]
      have : grp e c = [] := by unfold grp; rw [hb]; rfl
      rw [this, List.nil_append] at h
      exact flat_pick hc h
    · have hs : rowf T e c = some ⟨c, (T.idxOf (beh e c) : Int)⟩ := by unfold rowf; rw [if_neg hb]
      rw [List.filterMap_cons_some hs]
      have hcc := hc c hb
      unfold pick
      show ∃ m x t, (if (n : Int) < cs.getD (T.idxOf (beh e c)) 0 then _ else pick cs ((n : Int) - cs.getD (T.idxOf (beh e c)) 0) _) = _ ∧ _
      rw [hcc]
      by_cases hlt : n < (beh e c).length
      · rw [List.getElem?_append_left (by omega)] at h
        unfold grp at h
        rw [List.getElem?_map] at h
        obtain ⟨t, ht, rfl⟩ := Option.map_eq_some_iff.1 h
        rw [if_pos (by omega)]
        exact ⟨n, _, t, rfl, rfl, hb, rfl, ht⟩
      · rw [List.getElem?_append_right (by omega), hgl] at h
        rw [if_neg (by omega), show (n : Int) - ((beh e c).length : Int) = ((n - (beh e c).length : Nat) : Int) by omega]
        exact flat_pick hc h
theorem word_T {l : List Str} (h : RiseP l) (hl : l.length ≤ 100) (er : Int) : ∀ (N i n : Nat) (e : List Str) (s word : Str), i ≤ N → (tabW l)[i]? = some e → e[n]? = some s → word.length + N ≤ 100000 → Loop (dawg_Word.b1 (graphT (tabW l)) (counts (rowsOf (graphT (tabW l))), er)) ((n : Int), (i : Int), word) = some (word ++ s, 0) := by
  intro N
  induction N with
  | zero =>
    intro i n e s word hi he hs hw
    obtain rfl : i = 0 := by omega
    have hb : ∀ c, beh e c = [] := fun c => Classical.byContradiction fun hc => by have := (tabW_good h).low he hc; omega
    have hre := tabW_ri h e (List.mem_of_getElem? he)
    have hs0 : s = [] := by
      cases s with
      | nil => rfl
      | cons c t => have := mem_beh.2 (List.mem_of_getElem? hs); rw [hb c] at this; cases this
    subst hs0
    have hn := hre.rank_at hs
    rw [rank_nil] at hn
    subst hn
    have hfe : finOf e = true := hre.fin.2 (List.mem_of_getElem? hs)
    have hf : idx (graphT (tabW l)).Final ((0 : Nat) : Int) = some true := by rw [idx_nat]; simp [graphT, he, hfe]
    rw [List.append_nil]
    apply Loop_done
    rw [dawg_Word.b1, hf]; rfl
  | succ N ih =>
    intro i n e s word hi he hs hw
    have hem := List.mem_of_getElem? he
    have hre := tabW_ri h e hem
    have hlt := (List.getElem?_eq_some_iff.1 he).1
    have hf : idx (graphT (tabW l)).Final (i : Int) = some (finOf e) := by rw [idx_nat]; simp [graphT, he]
    have hx : idx (graphT (tabW l)).Edges (i : Int) = some (rowOf (tabW l) e) := by rw [idx_nat]; simp [graphT, he]
    have hx2 : (graphT (tabW l)).Edges[(i : Int).toNat]? = some (rowOf (tabW l) e) := by simp [graphT, he]
    have hnl := (List.getElem?_eq_some_iff.1 hs).1
    have hel : e.length ≤ 1000000 := tabW_long (by omega) e hem
    have hfl : ((graphT (tabW l)).Final.length : Int) = ((tabW l).length : Int) := by simp [graphT]
    have go : ∀ n' : Nat, n' ≤ n → (letters.flatMap (grp e))[n']? = some s → dawg_Word.b1 (graphT (tabW l)) (counts (rowsOf (graphT (tabW l))), er) ((n : Int), (i : Int), word) = dawg_Word.k2 (graphT (tabW l)) (counts (rowsOf (graphT (tabW l))), er) (i : Int) word (n' : Int) → Loop (dawg_Word.b1 (graphT (tabW l)) (counts (rowsOf (graphT (tabW l))), er)) ((n : Int), (i : Int), word) = some (word ++ s, 0) := fun n' hn' hp hb => by
      obtain ⟨m, x, t, p1, p2, p3, rfl, p5⟩ := flat_pick (fun c hc => cnt_W h hl (at_idx ((tabW_good h).mem hem c hc))) hp
      have hlow := (tabW_good h).low he p3
      have hrow := dawg_word_row (tabW_right h hl) (s := (i : Int)) (by omega) (by omega) hx2 (Nat.le_trans row_len (by omega)) (word := word) (by omega) er (rowOf (tabW l) e) 0 (n' : Int) rfl (by omega) (by unfold cap; omega) p1
      have hk2 : dawg_Word.k2 (graphT (tabW l)) (counts (rowsOf (graphT (tabW l))), er) (i : Int) word (n' : Int) = some (.next ((m : Int), x.To, word ++ [x.Label])) := by
        unfold dawg_Word.k2; rw [hx, Option.bind_some]; exact hrow
      rw [hk2] at hb
      rw [Loop_next hb, p2]
      have := ih _ m _ t (word ++ [x.Label]) (by omega) (at_idx ((tabW_good h).mem hem _ p3)) p5 (by simp; omega)
      rw [this, List.append_assoc]; rfl
    have hparts := hre.parts
    cases hfe : finOf e with
    | false =>
      rw [hfe] at hparts hf
      refine go n (Nat.le_refl _) ?_ ?_
      · rw [hparts] at hs; simpa using hs
      · rw [dawg_Word.b1, hf]; rfl
    | true =>
      rw [hfe] at hparts hf
      by_cases h0 : n = 0
      · subst h0
        rw [hparts] at hs
        simp at hs
        subst hs
        rw [List.append_nil]
        apply Loop_done
        rw [dawg_Word.b1, hf]; rfl
      · refine go (n - 1) (by omega) ?_ ?_
        · rw [hparts, if_pos rfl] at hs
          rw [List.getElem?_append_right (by simp; omega)] at hs
          exact hs
        · rw [dawg_Word.b1, hf, Option.bind_some, if_pos rfl, if_neg (by simpa using h0), w64 (by omega) (by omega), show (n : Int) - 1 = ((n - 1 : Nat) : Int) by omega]
end Go.Val

/- part P35 -/
/- Plain lemmas: texts in order, each once, none that is no word. -/
namespace Go.Val
set_option linter.unusedVariables false
def insN (out : List Str) (s : Str) : Nat := out.findIdx fun x => !Op.bytesLess x s
def insS (out : List Str) (s : Str) : List Str := if out[insN out s]? = some s then out else (out.take (insN out s) ++ [s]) ++ out.drop (insN out s)
def stepS (out : List Str) (s : Str) : List Str := if lenOk s then insS out s else out
def risingS (l : List Str) : List Str := l.foldl stepS []
theorem insN_le {out : List Str} {s : Str} : insN out s ≤ out.length := List.findIdx_le_length
theorem insS_len {out : List Str} {s : Str} : (insS out s).length ≤ out.length + 1 := by
  have := insN_le (out := out) (s := s)
  unfold insS
  split
  · omega
  · simp; omega
theorem stepS_len {out : List Str} {s : Str} : (stepS out s).length ≤ out.length + 1 := by
  unfold stepS
  split
  · exact insS_len
  · omega
theorem insS_mem {out : List Str} {s x : Str} : x ∈ insS out s ↔ x ∈ out ∨ x = s := by
  unfold insS
  split
  · rename_i h
    exact ⟨.inl, fun h2 => by
      rcases h2 with h2 | rfl
      · exact h2
      · exact List.mem_of_getElem? h⟩
  · rw [List.mem_append, List.mem_append, List.mem_singleton]
    conv => rhs; rw [← List.take_append_drop (insN out s) out, List.mem_append]
    constructor
    · rintro ((h | h) | h)
      · exact .inl (.inl h)
      · exact .inr h
      · exact .inl (.inr h)
    · rintro ((h | h) | h)
      · exact .inl (.inl h)
      · exact .inr h
      · exact .inl (.inr h)
theorem insN_lo {out : List Str} {s : Str} : ∀ x ∈ out.take (insN out s), Op.bytesLess x s = true := by
  intro x hx
  obtain ⟨i, hi, rfl⟩ := List.getElem_of_mem hx
  rw [List.length_take] at hi
  rw [List.getElem_take]
  have := List.not_of_lt_findIdx (p := fun x => !Op.bytesLess x s) (xs := out) (i := i) (by unfold insN at hi; omega)
  simpa using this
theorem insN_hi {out : List Str} {s : Str} (h : Ri out) (hne : out[insN out s]? ≠ some s) : ∀ x ∈ out.drop (insN out s), Op.bytesLess s x = true := by
  have key : ∀ n, insN out s = n → ∀ i (hi : n + i < out.length), Op.bytesLess s out[n + i] = true := by
    intro n hn i hi
    have hlt : n < out.length := by omega
    have hb : Op.bytesLess out[n] s = false := by
      have := List.findIdx_getElem (p := fun x => !Op.bytesLess x s) (xs := out) (w := by show insN out s < _; rw [hn]; exact hlt)
      have e0 : out.findIdx (fun x => !Op.bytesLess x s) = n := hn
      simp only [e0] at this
      simpa using this
    have h1 : Op.bytesLess s out[n] = true := bl_tot hb (by
      rw [beq_eq_false_iff_ne]
      intro e
      rw [hn, List.getElem?_eq_getElem hlt] at hne
      exact hne (by rw [e]))
    by_cases h0 : i = 0
    · subst h0; simp only [Nat.add_zero]; exact h1
    · exact bl_trans h1 (List.pairwise_iff_getElem.1 h n (n + i) hlt hi (by omega))
  intro x hx
  obtain ⟨i, hi, rfl⟩ := List.getElem_of_mem hx
  rw [List.length_drop] at hi
  rw [List.getElem_drop]
  exact key _ rfl i (by omega)
theorem Ri.ins {out : List Str} (h : Ri out) (s : Str) : Ri (insS out s) := by
  unfold insS
  split
  · exact h
  · rename_i hne
    have hd := insN_hi h hne
    have hp : List.Pairwise (fun a b => Op.bytesLess a b = true) (out.take (insN out s) ++ out.drop (insN out s)) := by rw [List.take_append_drop]; exact h
    rw [List.pairwise_append] at hp
    unfold Ri
    rw [List.pairwise_append, List.pairwise_append]
    refine ⟨⟨hp.1, by simp, fun a ha b hb => ?_⟩, hp.2.1, fun a ha b hb => ?_⟩
    · rw [List.mem_singleton] at hb; subst hb; exact insN_lo a ha
    · rcases List.mem_append.1 ha with ha | ha
      · exact hp.2.2 a ha b hb
      · rw [List.mem_singleton] at ha; subst ha; exact hd b hb
theorem Ri.riseP {l : List Str} (h : Ri l) (hl : ∀ s ∈ l, lenOk s = true) : RiseP l := ⟨hl, fun i h0 hi a b ha hb => by
  obtain ⟨h1, rfl⟩ := List.getElem?_eq_some_iff.1 ha
  obtain ⟨h2, rfl⟩ := List.getElem?_eq_some_iff.1 hb
  have := List.pairwise_iff_getElem.1 h (i - 1) i h1 h2 (by omega)
  rw [bl_asym this, Bool.false_or, beq_eq_false_iff_ne]
  intro e
  rw [e, bl_irr] at this
  cases this⟩
theorem rising_all (l : List Str) : Ri (risingS l) ∧ (risingS l).length ≤ l.length ∧ ∀ s, s ∈ risingS l ↔ s ∈ l ∧ lenOk s = true := by
  induction l using snoc_ind with
  | h0 => exact ⟨List.Pairwise.nil, by simp [risingS], fun s => by simp [risingS]⟩
  | h1 l x ih =>
    obtain ⟨i1, i2, i3⟩ := ih
    have e : risingS (l ++ [x]) = stepS (risingS l) x := by unfold risingS; rw [List.foldl_append]; rfl
    rw [e]
    refine ⟨?_, ?_, fun s => ?_⟩
    · unfold stepS
      split
      · exact i1.ins x
      · exact i1
    · have := stepS_len (out := risingS l) (s := x)
      simp; omega
    · unfold stepS
      split
      · rename_i hx
        rw [insS_mem, i3, List.mem_append, List.mem_singleton]
        constructor
        · rintro (⟨h1, h2⟩ | rfl)
          · exact ⟨.inl h1, h2⟩
          · exact ⟨.inr rfl, hx⟩
        · rintro ⟨h1 | rfl, h2⟩
          · exact .inl ⟨h1, h2⟩
          · exact .inr rfl
      · rename_i hx
        rw [i3, List.mem_append, List.mem_singleton]
        constructor
        · rintro ⟨h1, h2⟩; exact ⟨.inl h1, h2⟩
        · rintro ⟨h1 | rfl, h2⟩
          · exact ⟨h1, h2⟩
          · exact absurd h2 hx
theorem rising_P (l : List Str) : RiseP (risingS l) := (rising_all l).1.riseP fun s hs => ((rising_all l).2.2 s).1 hs |>.2
theorem ref_ins {l out : List Str} {i : Nat} {s : Str} (hi : l[i]? = some s) (hil : i < 1000000) (ho : out.length ≤ 1000000) : Loop (scansionref17_Rising.b2 l out (i : Int)) (0 : Int) = some (.next (insS out s, ((i + 1 : Nat) : Int))) := by
  have hle := insN_le (out := out) (s := s)
  have hrun := Loop_int (b := scansionref17_Rising.b2 l out (i : Int)) (i := 0) (n := insN out s) (Nat.zero_le _) (fun j _ hj => by
    have hj1 : out[j]? = some (out[j]'(by omega)) := List.getElem?_eq_getElem _
    have hg : Op.bytesLess (out[j]'(by omega)) s = true := by
      have := List.not_of_lt_findIdx (p := fun x => !Op.bytesLess x s) (xs := out) (i := j) hj
      simpa using this
    rw [scansionref17_Rising.b2, if_pos (by rw [decide_eq_true_eq]; omega), idx_nat, hj1, Option.bind_some, idx_nat, hi, Option.bind_some, hg, Option.bind_some, if_pos rfl, w64s (by omega)])
  rw [show ((0 : Nat) : Int) = 0 from rfl] at hrun
  rw [hrun]
  have hk2 : ∀ o, scansionref17_Rising.k2 (i : Int) o = some (.next (o, ((i + 1 : Nat) : Int))) := fun o => by
    unfold scansionref17_Rising.k2; rw [w64s (by omega)]
  by_cases h : insN out s < out.length
  · have hj1 : out[insN out s]? = some out[insN out s] := List.getElem?_eq_getElem h
    have hg : Op.bytesLess out[insN out s] s = false := by
      have := List.findIdx_getElem (p := fun x => !Op.bytesLess x s) (xs := out) (w := h)
      have t : (!Op.bytesLess out[insN out s] s) = true := this
      simpa using t
    apply Loop_end
    rw [scansionref17_Rising.b2, if_pos (by rw [decide_eq_true_eq]; omega), idx_nat, hj1, Option.bind_some, idx_nat, hi, Option.bind_some, hg, Option.bind_some, if_neg (by decide)]
    congr 1
    unfold scansionref17_Rising.k3
    rw [if_pos (by rw [decide_eq_true_eq]; omega), idx_nat, hj1, Option.bind_some, idx_nat, hi, Option.bind_some, Option.bind_some]
    unfold insS
    by_cases e : out[insN out s] = s
    · rw [if_pos (by simpa using e), if_pos (by rw [hj1, e]), hk2]
    · have hcut : cutH out (insN out s : Int) = some (out.take (insN out s)) := by unfold cutH; rw [if_pos (by omega)]; rfl
      have hcutL : cutL out (insN out s : Int) = some (out.drop (insN out s)) := by unfold cutL; rw [if_pos (by omega)]; rfl
      have htl : (out.take (insN out s)).length ≤ 1000000 := by rw [List.length_take]; omega
      rw [if_neg (by simpa using e), if_neg (by rw [hj1]; simpa using e), hcut, Option.bind_some, Int.toNat_natCast, room_g (by omega) (by omega), Option.bind_some, Option.bind_some, room_ok (by omega), Option.bind_some, hcutL, Option.bind_some, room_ok (by rw [List.length_take, List.length_drop]; omega), Option.bind_some, hk2]
  · have hn : out[insN out s]? = none := List.getElem?_eq_none (by omega)
    apply Loop_end
    rw [scansionref17_Rising.b2, if_neg (by rw [decide_eq_true_eq]; omega), Option.bind_some, if_neg (by decide)]
    congr 1
    unfold scansionref17_Rising.k3
    rw [if_neg (by rw [decide_eq_true_eq]; omega), Option.bind_some, if_neg (by decide)]
    unfold insS
    have hcut : cutH out (insN out s : Int) = some (out.take (insN out s)) := by unfold cutH; rw [if_pos (by omega)]; rfl
    have hcutL : cutL out (insN out s : Int) = some (out.drop (insN out s)) := by unfold cutL; rw [if_pos (by omega)]; rfl
    have htl : (out.take (insN out s)).length ≤ 1000000 := by rw [List.length_take]; omega
    rw [if_neg (by rw [hn]; simp), hcut, Option.bind_some, Int.toNat_natCast, room_g (by omega) (by omega), Option.bind_some, idx_nat, hi, Option.bind_some, room_ok (by omega), Option.bind_some, hcutL, Option.bind_some, room_ok (by rw [List.length_take, List.length_drop]; omega), Option.bind_some, hk2]
theorem ref_Rising_eq {l : List Str} (hl : l.length ≤ 100000) : scansionref17_Rising l = some (risingS l) := by
  unfold scansionref17_Rising
  have := Loop_run (b := scansionref17_Rising.b1 l) (fun k => (risingS (l.take k), (k : Int))) (i := 0) (n := l.length) (Nat.zero_le _) (fun j _ hj => by
    have hj1 : l[j]? = some l[j] := List.getElem?_eq_getElem hj
    have e : risingS (l.take (j + 1)) = stepS (risingS (l.take j)) l[j] := by
      rw [take_snoc hj1]; unfold risingS; rw [List.foldl_append]; rfl
    have hrl := (rising_all (l.take j)).2.1
    rw [List.length_take] at hrl
    show scansionref17_Rising.b1 l (_, (j : Int)) = _
    rw [scansionref17_Rising.b1, if_pos (by rw [decide_eq_true_eq]; omega), idx_nat, hj1, Option.bind_some, e]
    have hv : (if decide ((l[j].length : Int) < 1) = true then some true else some (decide ((l[j].length : Int) > 64))) = some (!lenOk l[j]) := by
      unfold lenOk
      rw [Bool.not_not]
      cases decide ((l[j].length : Int) < 1) <;> rfl
    rw [hv, Option.bind_some]
    unfold stepS
    cases lenOk l[j] with
    | false =>
      rw [if_pos (by decide), if_neg (by decide)]
      unfold scansionref17_Rising.k2
      rw [w64s (by omega)]
    | true =>
      rw [if_neg (by decide), if_pos rfl]
      rw [ref_ins hj1 (by omega) (by omega)])
  simp only [List.take_zero, List.take_length, show ((0 : Nat) : Int) = 0 from rfl] at this
  rw [show risingS [] = [] from rfl] at this
  rw [this]
  apply Loop_end
  rw [scansionref17_Rising.b1, if_neg (by rw [decide_eq_true_eq]; omega)]
  rfl
end Go.Val

/- part P36 -/
/- Plain lemmas: DawgWords. -/
namespace Go.Val
set_option linter.unusedVariables false
theorem W_len {l : List Str} : (counts (rowsOf (graphT (tabW l)))).length = (tabW l).length := by
  rw [counts_len]
  simp [rowsOf, graphT]
theorem W_last {l : List Str} : ((((tabW l).length : Int)) - 1).toNat = (tabW l).length - 1 := by omega
theorem word_none {l : List Str} (h : RiseP l) (hl : l.length ≤ 100) : dawg_Word (graphT (tabW l)) (l.length : Int) = some ([], 4) := by
  have hr := tabW_right h hl
  have hp := tabW_pos l
  have hfl : ((graphT (tabW l)).Final.length : Int) = ((tabW l).length : Int) := by simp [graphT]
  have hsw := start_w hr
  rw [hfl] at hsw
  have hc : idx (counts (rowsOf (graphT (tabW l)))) ((tabW l).length - 1 : Int) = some (l.length : Int) := by
    rw [cnt_at hr (by omega) (by omega)]
    rw [W_last, cnt_W h hl (tabW_at l)]
  unfold dawg_Word
  rw [dawg_Count_eq graph_short hr, Option.bind_some, if_neg (by simp), if_neg (by rw [decide_eq_true_eq]; omega)]
  simp only [W_len]
  rw [hsw, hc, Option.bind_some, Option.bind_some, if_pos (by rw [decide_eq_true_eq]; omega)]
theorem word_at {l : List Str} (h : RiseP l) (hl : l.length ≤ 100) {i : Nat} {s : Str} (hi : l[i]? = some s) : dawg_Word (graphT (tabW l)) (i : Int) = some (s, 0) := by
  have hr := tabW_right h hl
  have hp := tabW_pos l
  have hlt := (List.getElem?_eq_some_iff.1 hi).1
  have hfl : ((graphT (tabW l)).Final.length : Int) = ((tabW l).length : Int) := by simp [graphT]
  have hsw := start_w hr
  rw [hfl] at hsw
  have hc : idx (counts (rowsOf (graphT (tabW l)))) ((tabW l).length - 1 : Int) = some (l.length : Int) := by
    rw [cnt_at hr (by omega) (by omega)]
    rw [W_last, cnt_W h hl (tabW_at l)]
  have htl := tabW_len h hl
  unfold dawg_Word
  rw [dawg_Count_eq graph_short hr, Option.bind_some, if_neg (by simp), if_neg (by rw [decide_eq_true_eq]; omega)]
  simp only [W_len]
  rw [hsw, hc, Option.bind_some, Option.bind_some, if_neg (by rw [decide_eq_true_eq]; omega)]
  have := word_T h hl 0 ((tabW l).length - 1) ((tabW l).length - 1) i l s [] (Nat.le_refl _) (tabW_at l) hi (by simp; omega)
  rw [show (((tabW l).length - 1 : Nat) : Int) = ((tabW l).length : Int) - 1 by omega] at this
  exact this
theorem DawgWords_of (t : List Str) (o : Str) : scansionlaw17_DawgWords t o = some true := by
  unfold scansionlaw17_DawgWords
  obtain ⟨b, hb, hb2⟩ := few_eq t
  rw [awake17, Option.bind_some, hb, Option.bind_some]
  cases b with
  | false => rfl
  | true =>
    obtain ⟨hl, _⟩ := hb2 rfl
    by_cases ho : o.length ≤ 100
    · rw [if_neg (by simp; omega), ref_Rising_eq (by omega), Option.bind_some]
      obtain ⟨_, hrl, hrm⟩ := rising_all t
      have hP := rising_P t
      generalize risingS t = l at *
      have hll : l.length ≤ 100 := by omega
      rw [Build_eq hP hll, Option.bind_some, if_neg (by simp), dawg_Right_eq graph_short]
      have hr := tabW_right hP hll
      simp only [hr, decide_true, Option.bind_some, Bool.not_true]
      rw [if_neg (by decide)]
      have hrun := Loop_run (b := scansionlaw17_DawgWords.b1 o l (graphT (tabW l), 0)) (fun k => (decide (o ∈ l.take k), (k : Int))) (i := 0) (n := l.length) (Nat.zero_le _) (fun j _ hj => by
        have hj1 : l[j]? = some l[j] := List.getElem?_eq_getElem hj
        show scansionlaw17_DawgWords.b1 o l _ (_, (j : Int)) = _
        rw [scansionlaw17_DawgWords.b1, if_pos (by rw [decide_eq_true_eq]; omega), idx_nat, hj1, Option.bind_some]
        dsimp only
        rw [num_T hP hll hj1, Option.bind_some, word_at hP hll hj1, Option.bind_some, if_neg (by simp)]
        have hk2 : ∀ v, scansionlaw17_DawgWords.k2 (j : Int) v = some (.next (v, ((j + 1 : Nat) : Int))) := fun v => by
          unfold scansionlaw17_DawgWords.k2; rw [w64s (by omega)]
        rw [take_snoc hj1]
        by_cases hm : o ∈ l.take j
        · rw [decide_eq_true hm, if_pos rfl, hk2, decide_eq_true (List.mem_append_left _ hm)]
        · rw [decide_eq_false hm, if_neg (by decide), hk2]
          congr 3
          rw [Bool.eq_iff_iff, beq_iff_eq, decide_eq_true_eq, List.mem_append, List.mem_singleton]
          exact ⟨fun h => .inr h.symm, fun h => by
            rcases h with h | h
            · exact absurd h hm
            · exact h.symm⟩)
      simp only [List.take_zero, List.take_length, show ((0 : Nat) : Int) = 0 from rfl, List.not_mem_nil, decide_false] at hrun
      rw [hrun]
      apply Loop_end
      rw [scansionlaw17_DawgWords.b1, if_neg (by rw [decide_eq_true_eq]; omega)]
      congr 1
      unfold scansionlaw17_DawgWords.k1
      dsimp only
      have hp := tabW_pos l
      have hfl : ((graphT (tabW l)).Final.length : Int) = ((tabW l).length : Int) := by simp [graphT]
      have hsw := start_w hr
      rw [hfl] at hsw
      have hc : idx (counts (rowsOf (graphT (tabW l)))) ((tabW l).length - 1 : Int) = some (l.length : Int) := by
        rw [cnt_at hr (by omega) (by omega)]
        rw [W_last, cnt_W hP hll (tabW_at l)]
      rw [word_none hP hll, Option.bind_some, dawg_Count_eq graph_short hr, Option.bind_some, Has_T hP hll (by omega), Option.bind_some]
      dsimp only
      rw [if_pos (by simp), if_pos (by decide), if_pos (by decide), W_len, hsw, hc]
      simp
    · rw [if_pos (by simp; omega)]
end Go.Val

/- part P37 -/
/- Plain lemmas: DawgMore. -/
namespace Go.Val
set_option linter.unusedVariables false
theorem DawgMore_of (l : List Str) (w o : Str) : scansionlaw17_DawgMore l w o = some true := by
  unfold scansionlaw17_DawgMore
  obtain ⟨b, hb, hb2⟩ := few_eq l
  rw [awake17, Option.bind_some, hb, Option.bind_some]
  cases b with
  | false => rfl
  | true =>
    obtain ⟨hl, _⟩ := hb2 rfl
    by_cases hs : 1 ≤ w.length ∧ w.length ≤ 64 ∧ o.length ≤ 100
    · obtain ⟨h1, h2, h3⟩ := hs
      rw [if_neg (by simp; omega), ref_Rising_eq (by omega), Option.bind_some]
      obtain ⟨_, ra, rm⟩ := rising_all l
      obtain ⟨_, sa, sm⟩ := rising_all (l ++ [w])
      have pa := rising_P l
      have pb := rising_P (l ++ [w])
      have hlw : (l ++ [w]).length = l.length + 1 := by simp
      rw [Build_eq pa (by omega), Option.bind_some, room_ok (by omega), Option.bind_some, room_ok (by omega), Option.bind_some, ref_Rising_eq (by omega), Option.bind_some, Build_eq pb (by omega), Option.bind_some]
      dsimp only
      rw [if_pos (by decide), if_pos (by decide), Has_T pb (by omega) (by omega), Has_T pb (by omega) (by omega), Has_T pa (by omega) (by omega)]
      have hw : w ∈ risingS (l ++ [w]) := (sm w).2 ⟨by simp, lenOk_iff.2 ⟨h1, h2⟩⟩
      simp only [Option.bind_some, decide_eq_true hw, if_true]
      by_cases ho : o ∈ risingS l
      · have : o ∈ risingS (l ++ [w]) := (sm o).2 ⟨by simp [((rm o).1 ho).1], ((rm o).1 ho).2⟩
        rw [decide_eq_true ho, decide_eq_true this]
        rfl
      · rw [decide_eq_false ho]
        simp only [Bool.false_eq_true, if_false, Option.bind_some]
        congr 1
        rw [beq_iff_eq, Bool.eq_iff_iff, decide_eq_true_eq, beq_iff_eq, sm, List.mem_append, List.mem_singleton]
        constructor
        · rintro ⟨h | h, h5⟩
          · exact absurd ((rm o).2 ⟨h, h5⟩) ho
          · exact h
        · rintro rfl
          exact ⟨.inr rfl, lenOk_iff.2 ⟨h1, h2⟩⟩
    · rw [if_pos (by simp; omega)]
end Go.Val

/- part P38 -/
/- Plain lemmas: each state of a table is led to. -/
namespace Go.Val
set_option linter.unusedVariables false
theorem adds_sub : ∀ (k : Nat) (T : List (List Str)) (e : List Str), ∀ f ∈ T, f ∈ adds k T e
  | 0, T, e, f, h => h
  | k + 1, T, e, f, h => by
    rw [adds_succ]
    split
    · exact h
    · refine List.mem_append_left _ ?_
      have fold : ∀ (cs : List UInt8) (T : List (List Str)), f ∈ T → f ∈ cs.foldl (fstep k e) T := by
        intro cs
        induction cs with
        | nil => intro T h; exact h
        | cons c cs ih =>
          intro T h
          rw [List.foldl_cons]
          refine ih _ ?_
          unfold fstep
          split
          · exact h
          · exact adds_sub k T _ f h
      exact fold letters T h
theorem fold_sub {k : Nat} {e : List Str} {f : List Str} : ∀ (cs : List UInt8) (T : List (List Str)), f ∈ T → f ∈ cs.foldl (fstep k e) T
  | [], T, h => h
  | c :: cs, T, h => by
    rw [List.foldl_cons]
    refine fold_sub cs _ ?_
    unfold fstep
    split
    · exact h
    · exact adds_sub k T _ f h
theorem adds_led : ∀ (k : Nat) (T : List (List Str)) (e : List Str), ∀ f ∈ adds k T e, f ∈ T ∨ f = e ∨ ∃ h ∈ adds k T e, ∃ c, beh h c ≠ [] ∧ f = beh h c
  | 0, T, e, f, h => .inl h
  | k + 1, T, e, f, h => by
    rw [adds_succ] at h ⊢
    by_cases hm : e ∈ T
    · rw [if_pos hm] at h; exact .inl h
    · rw [if_neg hm] at h
      rw [if_neg hm]
      have fold : ∀ (cs : List UInt8) (T : List (List Str)), f ∈ cs.foldl (fstep k e) T → f ∈ T ∨ (∃ c, beh e c ≠ [] ∧ f = beh e c) ∨ ∃ h ∈ cs.foldl (fstep k e) T, ∃ c, beh h c ≠ [] ∧ f = beh h c := by
        intro cs
        induction cs with
        | nil => intro T h; exact .inl h
        | cons c cs ih =>
          intro T h
          rw [List.foldl_cons] at h ⊢
          rcases ih _ h with h1 | h1 | h1
          · by_cases hc : beh e c = []
            · have : fstep k e T c = T := by unfold fstep; rw [if_pos hc]
              rw [this] at h1; exact .inl h1
            · have hs : fstep k e T c = adds k T (beh e c) := by unfold fstep; rw [if_neg hc]
              rw [hs] at h1
              rcases adds_led k T (beh e c) f h1 with h2 | h2 | ⟨h2, h3, h4⟩
              · exact .inl h2
              · exact .inr (.inl ⟨c, hc, h2⟩)
              · exact .inr (.inr ⟨h2, fold_sub cs _ (by rw [hs]; exact h3), h4⟩)
          · exact .inr (.inl h1)
          · exact .inr (.inr h1)
      rcases List.mem_append.1 h with h | h
      · rcases fold letters T h with h1 | ⟨c, h1, h2⟩ | ⟨g, h1, h2⟩
        · exact .inl h1
        · exact .inr (.inr ⟨e, by simp, c, h1, h2⟩)
        · exact .inr (.inr ⟨g, List.mem_append_left _ h1, h2⟩)
      · rw [List.mem_singleton] at h; exact .inr (.inl h)
/-- Each state but the last is led to by one above it. -/
theorem tabW_led {l : List Str} (h : RiseP l) {i : Nat} (hi : i + 1 < (tabW l).length) : ∃ (j : Nat) (e : List Str) (c : UInt8), i < j ∧ (tabW l)[j]? = some e ∧ beh e c ≠ [] ∧ (tabW l).idxOf (beh e c) = i := by
  have hg := tabW_good h
  have hx : (tabW l)[i]? = some ((tabW l)[i]'(by omega)) := List.getElem?_eq_getElem _
  have hm := List.mem_of_getElem? hx
  rcases adds_led 65 [] l _ hm with h1 | h1 | ⟨g, h1, c, h2, h3⟩
  · cases h1
  · have := hg.idx hx
    rw [h1, hg.idx (tabW_at l)] at this
    omega
  · have hgi := at_idx h1
    have hlow := hg.low hgi h2
    have : (tabW l).idxOf (beh g c) = i := by rw [← h3]; exact hg.idx hx
    exact ⟨_, g, c, by rw [this] at hlow; exact hlow, hgi, h2, this⟩
theorem edge_eq {x y : TEdge} : ((x.Label.toNat : Int) == (y.Label.toNat : Int) && (x.To == y.To && true)) = decide (x = y) := by
  obtain ⟨a, b⟩ := x; obtain ⟨c, d⟩ := y
  rw [lab_eq, Bool.and_true, Bool.eq_iff_iff, Bool.and_eq_true, decide_eq_true_eq, beq_iff_eq, beq_iff_eq]
  simp
/-- Two graphs of one state that are not the same. -/
theorem Same_ne {f g : Bool} {r s : List TEdge} (hr : r.length ≤ 1000000) (h : ¬ (f = g ∧ r = s)) : scansionref17_Same ⟨[f], [r]⟩ ⟨[g], [s]⟩ = some false := by
  unfold scansionref17_Same
  rw [if_neg (by simp)]
  by_cases hf : f = g
  · subst hf
    have hrs : r ≠ s := fun e => h ⟨rfl, e⟩
    have h1 : Loop (scansionref17_Same.b3 ⟨[f], [r]⟩ ⟨[f], [s]⟩) 0 = scansionref17_Same.k1 ⟨[f], [r]⟩ ⟨[f], [s]⟩ := by
      have e : scansionref17_Same.b3 ⟨[f], [r]⟩ ⟨[f], [s]⟩ 0 = some (.next 1) := by
        rw [scansionref17_Same.b3, if_pos (by simp)]
        simp [idx]
        rfl
      rw [Loop_next e]
      apply Loop_end
      rw [scansionref17_Same.b3, if_neg (by simp)]
    rw [h1]
    unfold scansionref17_Same.k1
    apply Loop_done
    rw [scansionref17_Same.b1, if_pos (by simp)]
    rw [show idx [r] 0 = some r from rfl, Option.bind_some, show idx [s] 0 = some s from rfl, Option.bind_some]
    by_cases hl : r.length = s.length
    · rw [if_neg (by simp [hl])]
      have := Loop_all0 (b := scansionref17_Same.b2 0 r s) (fun j => r[j]? = s[j]?) r.length (r := .done false) (R := .next 1) (fun j hj hp => by
        have h1 : r[j]? = some r[j] := List.getElem?_eq_getElem hj
        rw [scansionref17_Same.b2, if_pos (by rw [decide_eq_true_eq]; omega), idx_nat, idx_nat, ← hp, h1, Option.bind_some, Option.bind_some, edge_eq, if_neg (by simp), w64s (by omega)]) (fun j hj hp => by
        have h1 : r[j]? = some r[j] := List.getElem?_eq_getElem hj
        have h2 : s[j]? = some (s[j]'(by omega)) := List.getElem?_eq_getElem _
        rw [h1, h2] at hp
        rw [scansionref17_Same.b2, if_pos (by rw [decide_eq_true_eq]; omega), idx_nat, idx_nat, h1, h2, Option.bind_some, Option.bind_some, edge_eq, if_pos (by simpa using hp)]) (by
        rw [scansionref17_Same.b2, if_neg (by rw [decide_eq_true_eq]; omega)]
        rfl)
      refine this.2 fun hall => hrs ?_
      apply List.ext_getElem? 
      intro j
      by_cases hj : j < r.length
      · exact hall j hj
      · rw [List.getElem?_eq_none (by omega), List.getElem?_eq_none (by omega)]
    · rw [if_pos (by simpa using fun e => hl (by omega))]
  · apply Loop_done
    rw [scansionref17_Same.b3, if_pos (by simp)]
    rw [show idx [f] 0 = some f from rfl, Option.bind_some, show idx [g] 0 = some g from rfl, Option.bind_some, if_pos (by simpa using hf)]
end Go.Val

/- part P39 -/
/- Plain lemmas: DawgLeast. -/
namespace Go.Val
set_option linter.unusedVariables false
theorem aget_aput {k j : Int} {v : Bool} : ∀ {m : List (Int × Bool)}, aget j (aput k v m) = if j = k then some v else aget j m
  | [] => by simp [aput, aget]
  | (a, b) :: m => by
    unfold aput
    by_cases h : k = a
    · subst h
      rw [if_pos rfl, aget]
      by_cases h2 : j = k
      · rw [if_pos h2, if_pos h2]
      · rw [if_neg h2, if_neg h2, aget, if_neg h2]
    · rw [if_neg h, aget, aget_aput]
      by_cases h2 : j = a
      · subst h2
        rw [if_pos rfl, if_neg (fun e => h e.symm), aget, if_pos rfl]
      · rw [if_neg h2, aget, if_neg h2]
def mputs (m : List (Int × Bool)) (xs : List TEdge) : List (Int × Bool) := xs.foldl (fun m x => aput x.To true m) m
theorem mputs_old {j : Int} : ∀ {xs : List TEdge} {m : List (Int × Bool)}, aget j m = some true → aget j (mputs m xs) = some true
  | [], m, h => h
  | x :: xs, m, h => by
    show aget j (mputs (aput x.To true m) xs) = _
    refine mputs_old ?_
    rw [aget_aput]; split
    · rfl
    · exact h
theorem mputs_new {x : TEdge} : ∀ {xs : List TEdge} {m : List (Int × Bool)}, x ∈ xs → aget x.To (mputs m xs) = some true
  | y :: xs, m, h => by
    show aget x.To (mputs (aput y.To true m) xs) = _
    rcases List.mem_cons.1 h with rfl | h
    · refine mputs_old ?_
      rw [aget_aput, if_pos rfl]
    · exact mputs_new h
def ledM (g : TGraph) (n : Nat) : Nat → List (Int × Bool)
  | 0 => aput ((n - 1 : Nat) : Int) true []
  | k + 1 => mputs (ledM g n k) ((g.Edges[n - 1 - k]?).getD [])
theorem ledM_first {g : TGraph} {n : Nat} : ∀ k, aget ((n - 1 : Nat) : Int) (ledM g n k) = some true
  | 0 => by rw [ledM, aget_aput, if_pos rfl]
  | k + 1 => mputs_old (ledM_first k)
theorem ledM_led {g : TGraph} {n : Nat} {j : Nat} {x : TEdge} (hj : j < n) (hx : x ∈ (g.Edges[j]?).getD []) : ∀ k, n - 1 - j < k → aget x.To (ledM g n k) = some true
  | 0, h => by omega
  | k + 1, h => by
    by_cases e : n - 1 - j = k
    · rw [ledM, show n - 1 - k = j by omega]; exact mputs_new hx
    · exact mputs_old (ledM_led hj hx k (by omega))
theorem one_cut {α : Type} {xs : List α} {s : Nat} {x : α} (h : xs[s]? = some x) : List.drop s (List.take (s + 1) xs) = [x] := by
  rw [take_snoc h]
  have hlt := (List.getElem?_eq_some_iff.1 h).1
  rw [List.drop_append_of_le_length (by rw [List.length_take]; omega), List.drop_eq_nil_of_le (by rw [List.length_take]; omega)]
  rfl
theorem least_rows {r3 : TGraph × Int} {s : Nat} {xs : List TEdge} (hx : r3.1.Edges[s]? = some xs) (hl : xs.length ≤ 1000000) (hs : s < 1000000) {m : List (Int × Bool)} : Loop (scansionlaw17_DawgLeast.b2 r3 (s : Int)) ((0 : Int), m) = some (.next ((s : Int) - 1, mputs m xs)) := by
  have := Loop_run (b := scansionlaw17_DawgLeast.b2 r3 (s : Int)) (fun k => ((k : Int), mputs m (xs.take k))) (i := 0) (n := xs.length) (Nat.zero_le _) (fun j _ hj => by
    have hj1 : xs[j]? = some xs[j] := List.getElem?_eq_getElem hj
    show scansionlaw17_DawgLeast.b2 r3 (s : Int) ((j : Int), _) = _
    rw [scansionlaw17_DawgLeast.b2, idx_nat, hx, Option.bind_some, if_pos (by rw [decide_eq_true_eq]; omega), idx_nat, hj1, Option.bind_some, w64s (by omega), take_snoc hj1]
    unfold mputs
    rw [List.foldl_append]; rfl)
  simp only [List.take_zero, List.take_length, show ((0 : Nat) : Int) = 0 from rfl] at this
  rw [show mputs m [] = m from rfl] at this
  rw [this]
  apply Loop_end
  rw [scansionlaw17_DawgLeast.b2, idx_nat, hx, Option.bind_some, if_neg (by rw [decide_eq_true_eq]; omega)]
  unfold scansionlaw17_DawgLeast.k2
  rw [w64 (by omega) (by omega)]
theorem least_apart {T : List (List Str)} (hg : Good T) (hr : ∀ f ∈ T, Ri f) {s t : Nat} {e f : List Str} (hs : T[s]? = some e) (ht : T[t]? = some f) (hne : s ≠ t) : ¬ (finOf e = finOf f ∧ rowOf T e = rowOf T f) := fun ⟨h1, h2⟩ => by
  have he := List.mem_of_getElem? hs
  have hf := List.mem_of_getElem? ht
  have := row_det (hr e he) (hr f hf) (fun c hc => hg.mem he c hc) (fun c hc => hg.mem hf c hc) h1 h2
  subst this
  exact hne (by rw [← hg.idx hs, ← hg.idx ht])
theorem least_step {l : List Str} (h : RiseP l) (hl : l.length ≤ 100) {s : Nat} {e : List Str} (hs : (tabW l)[s]? = some e) {m : List (Int × Bool)} (hm : aget (s : Int) m = some true) : scansionlaw17_DawgLeast.b1 (graphT (tabW l), 0) ((s : Int), m) = some (.next ((s : Int) - 1, mputs m (rowOf (tabW l) e))) := by
  have hg := tabW_good h
  have hr := tabW_ri h
  have hlt := (List.getElem?_eq_some_iff.1 hs).1
  have htl := tabW_len h hl
  have hfl : (graphT (tabW l)).Final.length = (tabW l).length := by simp [graphT]
  have hel : (graphT (tabW l)).Edges.length = (tabW l).length := by simp [graphT]
  have fin : ∀ (t : Nat) f, (tabW l)[t]? = some f → List.drop t (List.take (t + 1) (graphT (tabW l)).Final) = [finOf f] := fun t f hf => one_cut (by simp [graphT, hf])
  have edg : ∀ (t : Nat) f, (tabW l)[t]? = some f → List.drop t (List.take (t + 1) (graphT (tabW l)).Edges) = [rowOf (tabW l) f] := fun t f hf => one_cut (by simp [graphT, hf])
  have cutI : ∀ {α : Type} (xs : List α) (t : Nat), t < xs.length → cut xs (t : Int) ((t + 1 : Nat) : Int) = some ((xs.take (t + 1)).drop t) := fun xs t ht => by
    unfold cut; rw [if_pos (by omega)]; rfl
  rw [scansionlaw17_DawgLeast.b1, if_pos (by rw [decide_eq_true_eq]; omega)]
  have hrun := Loop_int (b := scansionlaw17_DawgLeast.b3 (graphT (tabW l), 0) (s : Int) m) (i := 0) (n := s) (Nat.zero_le _) (fun t _ ht => by
    have htt : (tabW l)[t]? = some ((tabW l)[t]'(by omega)) := List.getElem?_eq_getElem _
    rw [scansionlaw17_DawgLeast.b3, if_pos (by rw [decide_eq_true_eq]; omega), w64s (by omega), w64s (by omega)]
    dsimp only
    rw [cutI _ s (by omega), Option.bind_some, cutI _ s (by omega), Option.bind_some, cutI _ t (by omega), Option.bind_some, cutI _ t (by omega), Option.bind_some]
    simp only [Int.toNat_natCast]
    rw [fin s _ hs, edg s _ hs, fin t _ htt, edg t _ htt, Same_ne (Nat.le_trans row_len (by omega)) (least_apart hg hr hs htt (by omega)), Option.bind_some, if_neg (by decide)])
  rw [show ((0 : Nat) : Int) = 0 from rfl] at hrun
  rw [hrun]
  apply Loop_end
  rw [scansionlaw17_DawgLeast.b3, if_neg (by rw [decide_eq_true_eq]; omega)]
  unfold scansionlaw17_DawgLeast.k3
  rw [hm, if_neg (by decide), least_rows (xs := rowOf (tabW l) e) (by simp [graphT, hs]) (Nat.le_trans row_len (by omega)) (by omega)]
theorem DawgLeast_of (l : List Str) : scansionlaw17_DawgLeast l = some true := by
  unfold scansionlaw17_DawgLeast
  obtain ⟨b, hb, hb2⟩ := few_eq l
  rw [awake17, Option.bind_some, hb, Option.bind_some]
  cases b with
  | false => rfl
  | true =>
    obtain ⟨hl0, _⟩ := hb2 rfl
    rw [if_neg (by decide), ref_Rising_eq (by omega), Option.bind_some]
    obtain ⟨_, hrl, hrm⟩ := rising_all l
    have h := rising_P l
    generalize risingS l = l at *
    have hl : l.length ≤ 100 := by omega
    have htl := tabW_len h hl
    have hp := tabW_pos l
    have hfl : (graphT (tabW l)).Final.length = (tabW l).length := by simp [graphT]
    have hel : (graphT (tabW l)).Edges.length = (tabW l).length := by simp [graphT]
    rw [Build_eq h hl, Option.bind_some]
    dsimp only
    rw [hfl, hel, if_neg (by intro hh; simp only [Bool.or_eq_true, bne_iff_ne, beq_iff_eq, ne_eq, not_true_eq_false, false_or] at hh; omega), w64 (by omega) (by omega)]
    have hrun := Loop_run (b := scansionlaw17_DawgLeast.b1 (graphT (tabW l), 0)) (fun k => (((tabW l).length : Int) - 1 - (k : Int), ledM (graphT (tabW l)) (tabW l).length k)) (i := 0) (n := (tabW l).length) (Nat.zero_le _) (fun k _ hk => by
      have hs : (tabW l)[(tabW l).length - 1 - k]? = some ((tabW l)[(tabW l).length - 1 - k]'(by omega)) := List.getElem?_eq_getElem _
      show scansionlaw17_DawgLeast.b1 _ (((tabW l).length : Int) - 1 - (k : Int), _) = _
      rw [show ((tabW l).length : Int) - 1 - (k : Int) = (((tabW l).length - 1 - k : Nat) : Int) by omega]
      rw [least_step h hl hs (by
        by_cases h0 : k = 0
        · subst h0; exact ledM_first 0
        · obtain ⟨j, e, c, q1, q2, q3, q4⟩ := tabW_led h (i := (tabW l).length - 1 - k) (by omega)
          have hj := (List.getElem?_eq_some_iff.1 q2).1
          have hx : (⟨c, ((tabW l).idxOf (beh e c) : Int)⟩ : TEdge) ∈ ((graphT (tabW l)).Edges[j]?).getD [] := by
            have : (graphT (tabW l)).Edges[j]? = some (rowOf (tabW l) e) := by simp [graphT, q2]
            rw [this, Option.getD_some, row_eq, List.mem_filterMap]
            exact ⟨c, letters_mem c, by unfold rowf; rw [if_neg q3]⟩
          have := ledM_led (n := (tabW l).length) hj hx k (by omega)
          rw [← q4]; exact this)]
      have hrow : (graphT (tabW l)).Edges[(tabW l).length - 1 - k]? = some (rowOf (tabW l) ((tabW l)[(tabW l).length - 1 - k]'(by omega))) := by simp [graphT, hs]
      rw [ledM, hrow, Option.getD_some]
      congr 3
      omega)
    rw [show aput ((tabW l).length - 1 : Int) true [] = ledM (graphT (tabW l)) (tabW l).length 0 by rw [ledM]; congr 1; omega]
    have e0 : ((tabW l).length : Int) - 1 = ((tabW l).length : Int) - 1 - ((0 : Nat) : Int) := by omega
    rw [e0]
    refine hrun.trans ?_
    apply Loop_end
    rw [scansionlaw17_DawgLeast.b1, if_neg (by rw [decide_eq_true_eq]; omega)]
    rfl
end Go.Val

/- part P40 -/
/- Plain lemmas: cells of an array. -/
namespace Go.Val
set_option linter.unusedVariables false
def zC : Tdarray_cell := ⟨0, 0⟩
def lk (cells : List Tdarray_cell) (i : Nat) : Tdarray_cell := cells.getD i zC
theorem lk_ge {cells : List Tdarray_cell} {i : Nat} (h : cells.length ≤ i) : lk cells i = zC := by
  unfold lk; rw [List.getD_eq_getElem?_getD, List.getElem?_eq_none h]; rfl
theorem lk_at {cells : List Tdarray_cell} {i : Nat} {c : Tdarray_cell} (h : cells[i]? = some c) : lk cells i = c := by
  unfold lk; rw [List.getD_eq_getElem?_getD, h]; rfl
theorem lk_some {cells : List Tdarray_cell} {i : Nat} (h : i < cells.length) : cells[i]? = some (lk cells i) := by
  have := List.getElem?_eq_getElem h
  rw [this, lk_at this]
theorem lk_ext {cells : List Tdarray_cell} {n i : Nat} : lk (cells ++ List.replicate n zC) i = lk cells i := by
  by_cases h : i < cells.length
  · unfold lk
    rw [List.getD_eq_getElem?_getD, List.getD_eq_getElem?_getD, List.getElem?_append_left h]
  · rw [lk_ge (cells := cells) (by omega)]
    unfold lk
    rw [List.getD_eq_getElem?_getD, List.getElem?_append_right (by omega), List.getElem?_replicate]
    split <;> rfl
theorem lk_set {cells : List Tdarray_cell} {a i : Nat} {c : Tdarray_cell} (h : a < cells.length) : lk (cells.set a c) i = if i = a then c else lk cells i := by
  unfold lk
  rw [List.getD_eq_getElem?_getD, List.getD_eq_getElem?_getD, List.getElem?_set]
  by_cases e : a = i
  · subst e; rw [if_pos rfl, if_pos h, if_pos rfl]; rfl
  · rw [if_neg e, if_neg (fun h => e h.symm)]
/-- How many cells are taken. -/
def nz (cells : List Tdarray_cell) : Nat := cells.countP fun c => !(decide (c = zC))
theorem nz_le {cells : List Tdarray_cell} : nz cells ≤ cells.length := List.countP_le_length
theorem nz_ext {cells : List Tdarray_cell} {n : Nat} : nz (cells ++ List.replicate n zC) = nz cells := by
  unfold nz
  rw [List.countP_append]
  have : (List.replicate n zC).countP (fun c => !(decide (c = zC))) = 0 := by
    rw [List.countP_eq_zero]
    intro c hc
    rw [List.eq_of_mem_replicate hc]; simp
  omega
theorem nz_set {cells : List Tdarray_cell} {a : Nat} {c : Tdarray_cell} (h : a < cells.length) (h0 : lk cells a = zC) (hc : c ≠ zC) : nz (cells.set a c) = nz cells + 1 := by
  have hx : cells[a]? = some zC := by rw [lk_some h, h0]
  have hx2 : cells[a] = zC := (List.getElem?_eq_some_iff.1 hx).2
  unfold nz
  have e1 : cells = cells.take a ++ zC :: cells.drop (a + 1) := by
    conv => lhs; rw [← List.take_append_drop a cells, List.drop_eq_getElem_cons h, hx2]
  rw [List.set_eq_take_append_cons_drop, if_pos h]
  conv => rhs; rw [e1]
  rw [List.countP_append, List.countP_append, List.countP_cons, List.countP_cons]
  simp [hc]; omega
/-! ### first fit -/
def freeAt (cells : List Tdarray_cell) (l : List TEdge) (b : Nat) : Prop := ∀ x ∈ l, lk cells (b + x.Label.toNat) = zC
theorem free_end {cells : List Tdarray_cell} {l : List TEdge} : freeAt cells l cells.length := fun x _ => lk_ge (by omega)
theorem first_free (cells : List Tdarray_cell) (l : List TEdge) : ∃ b, b ≤ cells.length ∧ freeAt cells l b ∧ ∀ j, j < b → ¬ freeAt cells l j := by
  have key : ∀ n, n ≤ cells.length → (∃ b, b ≤ n ∧ freeAt cells l b ∧ ∀ j, j < b → ¬ freeAt cells l j) ∨ ∀ j, j ≤ n → ¬ freeAt cells l j := by
    intro n
    induction n with
    | zero =>
      intro _
      by_cases h : freeAt cells l 0
      · exact .inl ⟨0, Nat.le_refl _, h, fun j hj => by omega⟩
      · exact .inr fun j hj => by obtain rfl : j = 0 := by omega
                                  exact h
    | succ n ih =>
      intro hn
      rcases ih (by omega) with ⟨b, h1, h2⟩ | h
      · exact .inl ⟨b, by omega, h2⟩
      · by_cases hf : freeAt cells l (n + 1)
        · exact .inl ⟨n + 1, Nat.le_refl _, hf, fun j hj => h j (by omega)⟩
        · exact .inr fun j hj => by
            by_cases e : j = n + 1
            · subst e; exact hf
            · exact h j (by omega)
  rcases key cells.length (Nat.le_refl _) with ⟨b, h1, h2⟩ | h
  · exact ⟨b, h1, h2⟩
  · exact absurd free_end (h _ (Nat.le_refl _))
theorem wlab {c : UInt8} : IntKind.i64.wrap (c.toNat : Int) = (c.toNat : Int) := by have := c.toNat_lt; rw [w64 (by omega) (by omega)]
theorem fits_eq {A : Tdarray_Array} {b : Nat} {l : List TEdge} (hb : b ≤ 1000000) (hl : l.length ≤ 1000000) : (freeAt A.cells l b → darray_Array_fits A (b : Int) l = some true) ∧ (¬ freeAt A.cells l b → darray_Array_fits A (b : Int) l = some false) := by
  have hf : ∀ x ∈ l, darray_Array_fits_1 x (b : Int) A = some (!(decide (lk A.cells (b + x.Label.toNat) = zC))) := fun x _ => by
    have hx := x.Label.toNat_lt
    unfold darray_Array_fits_1
    rw [wlab, w64 (by omega) (by omega)]
    by_cases h : b + x.Label.toNat < A.cells.length
    · rw [if_pos (by rw [decide_eq_true_eq]; omega), show (b : Int) + (x.Label.toNat : Int) = ((b + x.Label.toNat : Nat) : Int) by omega, idx_nat, lk_some h, Option.bind_some, Option.bind_some]
      congr 2
      rw [Bool.eq_iff_iff, Bool.and_eq_true, Bool.and_eq_true, beq_iff_eq, beq_iff_eq, decide_eq_true_eq]
      generalize lk A.cells (b + x.Label.toNat) = c
      obtain ⟨o, t⟩ := c
      unfold zC
      simp
    · rw [if_neg (by rw [decide_eq_true_eq]; omega), Option.bind_some, lk_ge (by omega)]
      simp
  unfold darray_Array_fits slices_ContainsFunc_api_Edge_api_Edge
  rw [IndexFunc_edge hf (by omega), Option.bind_some, find_nonneg, Option.bind_some]
  refine ⟨fun h => ?_, fun h => ?_⟩
  · have : (l.any fun x => !(decide (lk A.cells (b + x.Label.toNat) = zC))) = false := by
      rw [List.any_eq_false]; intro x hx; rw [h x hx]; simp
    rw [this]; rfl
  · have : (l.any fun x => !(decide (lk A.cells (b + x.Label.toNat) = zC))) = true := by
      refine Classical.byContradiction fun hc => h fun x hx => ?_
      rw [Bool.not_eq_true, List.any_eq_false] at hc
      have := hc x hx
      simpa using this
    rw [this]; rfl
end Go.Val

/- part P41 -/
/- Plain lemmas: the rows of a graph are laid. -/
namespace Go.Val
set_option linter.unusedVariables false
noncomputable section
def ff (cells : List Tdarray_cell) (l : List TEdge) : Nat := (first_free cells l).choose
theorem ff_le (cells : List Tdarray_cell) (l : List TEdge) : ff cells l ≤ cells.length := (first_free cells l).choose_spec.1
theorem ff_free (cells : List Tdarray_cell) (l : List TEdge) : freeAt cells l (ff cells l) := (first_free cells l).choose_spec.2.1
theorem ff_first (cells : List Tdarray_cell) (l : List TEdge) : ∀ j, j < ff cells l → ¬ freeAt cells l j := (first_free cells l).choose_spec.2.2
def putE (s b : Nat) (cells : List Tdarray_cell) (x : TEdge) : List Tdarray_cell :=
  (if b + x.Label.toNat ≥ cells.length then cells ++ List.replicate (b + x.Label.toNat + 1 - cells.length) zC else cells).set (b + x.Label.toNat) ⟨(s : Int) + 1, x.To⟩
theorem putE_lk {s b : Nat} {cells : List Tdarray_cell} {x : TEdge} {i : Nat} : lk (putE s b cells x) i = if i = b + x.Label.toNat then ⟨(s : Int) + 1, x.To⟩ else lk cells i := by
  unfold putE
  by_cases h : b + x.Label.toNat ≥ cells.length
  · rw [if_pos h, lk_set (by simp; omega), lk_ext]
  · rw [if_neg h, lk_set (by omega)]
theorem putE_len {s b : Nat} {cells : List Tdarray_cell} {x : TEdge} : (putE s b cells x).length = max cells.length (b + x.Label.toNat + 1) := by
  unfold putE
  rw [List.length_set]
  by_cases h : b + x.Label.toNat ≥ cells.length
  · rw [if_pos h, List.length_append, List.length_replicate]; omega
  · rw [if_neg h]; omega
theorem putE_nz {s b : Nat} {cells : List Tdarray_cell} {x : TEdge} (h0 : lk cells (b + x.Label.toNat) = zC) : nz (putE s b cells x) = nz cells + 1 := by
  have hc : (⟨(s : Int) + 1, x.To⟩ : Tdarray_cell) ≠ zC := fun e => by
    have := congrArg Tdarray_cell.of e
    simp [zC] at this; omega
  unfold putE
  by_cases h : b + x.Label.toNat ≥ cells.length
  · rw [if_pos h, nz_set (by simp; omega) (by rw [lk_ext]; exact h0) hc, nz_ext]
  · rw [if_neg h, nz_set (by omega) h0 hc]
theorem puts_lk {s b : Nat} {cells : List Tdarray_cell} {i : Nat} : ∀ {l : List TEdge}, (l.Pairwise fun x y => x.Label.toNat < y.Label.toNat) → (lk (l.foldl (putE s b) cells) i = lk cells i ∧ ∀ x ∈ l, i ≠ b + x.Label.toNat) ∨ ∃ x ∈ l, i = b + x.Label.toNat ∧ lk (l.foldl (putE s b) cells) i = ⟨(s : Int) + 1, x.To⟩ := by
  intro l
  induction l using snoc_ind with
  | h0 => intro _; exact .inl ⟨rfl, fun x hx => by cases hx⟩
  | h1 l y ih =>
    intro hp
    rw [List.pairwise_append] at hp
    have e : (l ++ [y]).foldl (putE s b) cells = putE s b (l.foldl (putE s b) cells) y := by rw [List.foldl_append]; rfl
    rw [e, putE_lk]
    by_cases hi : i = b + y.Label.toNat
    · rw [if_pos hi]; exact .inr ⟨y, by simp, hi, rfl⟩
    · rw [if_neg hi]
      rcases ih hp.1 with ⟨h1, h2⟩ | ⟨x, h1, h2, h3⟩
      · exact .inl ⟨h1, fun x hx => by
          rcases List.mem_append.1 hx with hx | hx
          · exact h2 x hx
          · rw [List.mem_singleton] at hx; subst hx; exact hi⟩
      · exact .inr ⟨x, List.mem_append_left _ h1, h2, h3⟩
theorem puts_len {s b : Nat} {cells : List Tdarray_cell} : ∀ {l : List TEdge}, cells.length ≤ (l.foldl (putE s b) cells).length ∧ (l.foldl (putE s b) cells).length ≤ max cells.length (b + 256) := by
  intro l
  induction l using snoc_ind with
  | h0 => exact ⟨Nat.le_refl _, by simp; omega⟩
  | h1 l y ih =>
    have e : (l ++ [y]).foldl (putE s b) cells = putE s b (l.foldl (putE s b) cells) y := by rw [List.foldl_append]; rfl
    have := y.Label.toNat_lt
    rw [e, putE_len]; omega
theorem puts_nz {s b : Nat} {cells : List Tdarray_cell} : ∀ {l : List TEdge}, (l.Pairwise fun x y => x.Label.toNat < y.Label.toNat) → freeAt cells l b → nz (l.foldl (putE s b) cells) = nz cells + l.length := by
  intro l
  induction l using snoc_ind with
  | h0 => intro _ _; rfl
  | h1 l y ih =>
    intro hp hf
    have hp' := hp
    rw [List.pairwise_append] at hp
    have e : (l ++ [y]).foldl (putE s b) cells = putE s b (l.foldl (putE s b) cells) y := by rw [List.foldl_append]; rfl
    rw [e, putE_nz, ih hp.1 (fun x hx => hf x (List.mem_append_left _ hx)), List.length_append, List.length_singleton]
    · omega
    · rcases puts_lk (s := s) (b := b) (cells := cells) (i := b + y.Label.toNat) hp.1 with ⟨h1, h2⟩ | ⟨x, h1, h2, h3⟩
      · rw [h1]; exact hf y (by simp)
      · have := hp.2.2 x h1 y (by simp)
        omega
/-- The bases and the cells after so many rows. -/
def packN (rows : List (List TEdge)) : Nat → List Int × List Tdarray_cell
  | 0 => ([], [])
  | k + 1 => ((packN rows k).1 ++ [(ff (packN rows k).2 (rows.getD k []) : Int)], (rows.getD k []).foldl (putE k (ff (packN rows k).2 (rows.getD k []))) (packN rows k).2)
def full (rows : List (List TEdge)) : Nat → Nat
  | 0 => 0
  | k + 1 => full rows k + if rows.getD k [] = [] then 0 else 1
def many (rows : List (List TEdge)) : Nat → Nat
  | 0 => 0
  | k + 1 => many rows k + (rows.getD k []).length
theorem full_le (rows : List (List TEdge)) : ∀ k, full rows k ≤ k ∧ full rows k ≤ many rows k
  | 0 => by simp [full, many]
  | k + 1 => by
    have ih := full_le rows k
    unfold full many
    by_cases h : rows.getD k [] = []
    · rw [if_pos h, h]; simp; omega
    · have := List.length_pos_iff.2 h
      rw [if_neg h]; omega
def Rises (rows : List (List TEdge)) : Prop := ∀ k, (rows.getD k []).Pairwise fun x y => x.Label.toNat < y.Label.toNat
structure PInv (rows : List (List TEdge)) (k : Nat) (bs : List Int) (cs : List Tdarray_cell) : Prop where
  len : bs.length = k
  from_ : ∀ i, lk cs i = zC ∨ ∃ (s : Nat) (x : TEdge) (b : Nat), s < k ∧ x ∈ rows.getD s [] ∧ bs[s]? = some (b : Int) ∧ i = b + x.Label.toNat ∧ lk cs i = ⟨(s : Int) + 1, x.To⟩
  has : ∀ s x, s < k → x ∈ rows.getD s [] → ∃ b : Nat, bs[s]? = some (b : Int) ∧ lk cs (b + x.Label.toNat) = ⟨(s : Int) + 1, x.To⟩
  base : ∀ (s : Nat), s < k → ∃ b : Nat, bs[s]? = some (b : Int) ∧ b ≤ 256 * k
  size : cs.length ≤ 256 * full rows k
  taken : nz cs = many rows k
theorem packN_inv {rows : List (List TEdge)} (hr : Rises rows) : ∀ k, PInv rows k (packN rows k).1 (packN rows k).2
  | 0 => ⟨rfl, fun i => .inl (lk_ge (Nat.zero_le _)), fun s x h => by omega, fun s h => by omega, by simp [packN, full], rfl⟩
  | k + 1 => by
    have ih := packN_inv hr k
    have hl := hr k
    generalize hbs : (packN rows k).1 = bs at ih
    generalize hcs : (packN rows k).2 = cs at ih
    have e : packN rows (k + 1) = (bs ++ [(ff cs (rows.getD k []) : Int)], (rows.getD k []).foldl (putE k (ff cs (rows.getD k []))) cs) := by
      rw [packN, hbs, hcs]
    rw [e]
    have hff := ff_le cs (rows.getD k [])
    have hfree := ff_free cs (rows.getD k [])
    have hfull := full_le rows k
    generalize ff cs (rows.getD k []) = b at hff hfree ⊢
    have hat : (bs ++ [(b : Int)])[k]? = some (b : Int) := by rw [← ih.len]; simp
    have hold : ∀ s, s < k → (bs ++ [(b : Int)])[s]? = bs[s]? := fun s hs => List.getElem?_append_left (by rw [ih.len]; exact hs)
    refine ⟨by simp [ih.len], fun i => ?_, fun s x hs hx => ?_, fun s hs => ?_, ?_, ?_⟩
    · rcases puts_lk (s := k) (b := b) (cells := cs) (i := i) hl with ⟨h1, h2⟩ | ⟨x, h1, h2, h3⟩
      · rw [h1]
        rcases ih.from_ i with h | ⟨s, x, b', g1, g2, g3, g4, g5⟩
        · exact .inl h
        · exact .inr ⟨s, x, b', by omega, g2, by rw [hold s g1]; exact g3, g4, g5⟩
      · exact .inr ⟨k, x, b, by omega, h1, hat, h2, h3⟩
    · by_cases hk : s = k
      · subst hk
        refine ⟨b, hat, ?_⟩
        rcases puts_lk (s := s) (b := b) (cells := cs) (i := b + x.Label.toNat) hl with ⟨h1, h2⟩ | ⟨y, h1, h2, h3⟩
        · exact absurd rfl (h2 x hx)
        · rw [h3]
          obtain ⟨p, hp, rfl⟩ := List.getElem_of_mem hx
          obtain ⟨q, hq, rfl⟩ := List.getElem_of_mem h1
          have hpw := List.pairwise_iff_getElem.1 hl
          by_cases hpq : p = q
          · subst hpq; rfl
          · by_cases hlt : p < q
            · have := hpw p q hp hq hlt; omega
            · have := hpw q p hq hp (by omega); omega
      · obtain ⟨b', g1, g2⟩ := ih.has s x (by omega) hx
        refine ⟨b', by rw [hold s (by omega)]; exact g1, ?_⟩
        rcases puts_lk (s := k) (b := b) (cells := cs) (i := b' + x.Label.toNat) hl with ⟨h1, h2⟩ | ⟨y, h1, h2, h3⟩
        · rw [h1, g2]
        · have := hfree y h1
          rw [← h2, g2] at this
          have := congrArg Tdarray_cell.of this
          simp [zC] at this; omega
    · by_cases hk : s = k
      · subst hk; exact ⟨b, hat, by have := ih.size; omega⟩
      · obtain ⟨b', g1, g2⟩ := ih.base s (by omega)
        exact ⟨b', by rw [hold s (by omega)]; exact g1, by omega⟩
    · have h1 := puts_len (s := k) (b := b) (cells := cs) (l := rows.getD k [])
      have h2 := ih.size
      unfold full
      by_cases h : rows.getD k [] = []
      · rw [if_pos h, h]; simp; exact h2
      · rw [if_neg h]
        show ((rows.getD k []).foldl (putE k b) cs).length ≤ _
        omega
    · rw [puts_nz hl hfree, ih.taken]; rfl
end
end Go.Val

/- part P42 -/
/- Plain lemmas: Pack. -/
namespace Go.Val
set_option linter.unusedVariables false
theorem getD_row {g : TGraph} {s : Nat} {xs : List TEdge} (h : g.Edges[s]? = some xs) : g.Edges.getD s [] = xs := by rw [List.getD_eq_getElem?_getD, h]; rfl
theorem right_rises {g : TGraph} (hr : RightP g) : Rises g.Edges := fun k => by
  rw [List.getD_eq_getElem?_getD]
  cases h : g.Edges[k]? with
  | none => exact List.Pairwise.nil
  | some xs =>
    have hlt := (List.getElem?_eq_some_iff.1 h).1
    have hrow := hr.rows k hlt xs h
    show List.Pairwise _ xs
    rw [List.pairwise_iff_getElem]
    have key : ∀ d i (hi : i + d + 1 < xs.length), xs[i].Label.toNat < xs[i + d + 1].Label.toNat := by
      intro d
      induction d with
      | zero => intro i hi; exact (hrow (i + 1) hi xs[i + 1] (List.getElem?_eq_getElem hi)).2.2 (by omega) xs[i] (by rw [Nat.add_sub_cancel]; exact List.getElem?_eq_getElem _)
      | succ d ih =>
        intro i hi
        have h1 := ih i (by omega)
        have h2 := (hrow (i + d + 1 + 1) hi xs[i + d + 1 + 1] (List.getElem?_eq_getElem hi)).2.2 (by omega) xs[i + d + 1] (by rw [Nat.add_sub_cancel]; exact List.getElem?_eq_getElem _)
        simp only [show i + (d + 1) + 1 = i + d + 1 + 1 by omega]
        omega
    intro i j hi hj hij
    have := key (j - i - 1) i (by omega)
    simp only [show i + (j - i - 1) + 1 = j by omega] at this
    exact this
theorem rise_256 {xs : List TEdge} (h : xs.Pairwise fun x y => x.Label.toNat < y.Label.toNat) : xs.length ≤ 256 := by
  have hp := List.pairwise_iff_getElem.1 h
  have key : ∀ i (hi : i < xs.length), i ≤ xs[i].Label.toNat := by
    intro i
    induction i with
    | zero => intro _; omega
    | succ i ih => intro hi; have := ih (by omega); have := hp i (i + 1) (by omega) hi (by omega); omega
  by_cases h0 : xs.length = 0
  · omega
  · have h1 := key (xs.length - 1) (by omega)
    have h2 := (xs[xs.length - 1]'(by omega)).Label.toNat_lt
    omega
theorem many_le {rows : List (List TEdge)} (h : Rises rows) : ∀ k, many rows k ≤ 256 * k
  | 0 => by simp [many]
  | k + 1 => by have := many_le h k; have := rise_256 (h k); unfold many; omega
noncomputable section
def arrOf (g : TGraph) : Tdarray_Array := ⟨g, (packN g.Edges g.Edges.length).1, (packN g.Edges g.Edges.length).2, counts (rowsOf g)⟩
theorem pack_row {g : TGraph} (hr : RightP g) {k : Nat} {bs : List Int} {cs : List Tdarray_cell} {xs : List TEdge} {b : Nat} (hx : xs.length ≤ 256) (hc : cs.length ≤ 100000) (hb : b ≤ cs.length) (hbl : bs.length ≤ 100000) (hk : k ≤ 100000) :
    Loop (darray_Pack.b2 (k : Int) bs xs (b : Int)) (0, cs) = some (.next (((k + 1 : Nat) : Int), bs ++ [(b : Int)], xs.foldl (putE k b) cs)) := by
  have hrun := Loop_run (b := darray_Pack.b2 (k : Int) bs xs (b : Int)) (fun j => ((j : Int), (xs.take j).foldl (putE k b) cs)) (i := 0) (n := xs.length) (Nat.zero_le _) (fun j _ hj => by
    have hj1 : xs[j]? = some xs[j] := List.getElem?_eq_getElem hj
    have hlt := xs[j].Label.toNat_lt
    have hlen := puts_len (s := k) (b := b) (cells := cs) (l := xs.take j)
    show darray_Pack.b2 (k : Int) bs xs (b : Int) ((j : Int), _) = _
    rw [take_snoc hj1, List.foldl_append]
    generalize (xs.take j).foldl (putE k b) cs = cells at hlen
    show darray_Pack.b2 (k : Int) bs xs (b : Int) ((j : Int), cells) = some (.next (((j + 1 : Nat) : Int), putE k b cells xs[j]))
    have hat : IntKind.i64.wrap ((b : Int) + IntKind.i64.wrap (xs[j].Label.toNat : Int)) = ((b + xs[j].Label.toNat : Nat) : Int) := by
      rw [wlab, w64 (by omega) (by omega)]; omega
    rw [darray_Pack.b2, if_pos (by rw [decide_eq_true_eq]; omega), idx_nat, hj1, Option.bind_some, hat]
    have hk6 : ∀ cells' : List Tdarray_cell, b + xs[j].Label.toNat < cells'.length → darray_Pack.k6 (k : Int) (b : Int) (j : Int) xs[j] cells' = some (.next (((j + 1 : Nat) : Int), cells'.set (b + xs[j].Label.toNat) ⟨(k : Int) + 1, xs[j].To⟩)) := fun cells' hc' => by
      unfold darray_Pack.k6
      rw [hat, idx_nat, lk_some hc', Option.bind_some, w64s (by omega), w64 (by omega) (by omega), Int.toNat_natCast]
    unfold putE
    by_cases h : b + xs[j].Label.toNat ≥ cells.length
    · rw [if_pos (by rw [decide_eq_true_eq]; omega), if_pos h]
      have hn : IntKind.i64.wrap (IntKind.i64.wrap (((b + xs[j].Label.toNat : Nat) : Int) + 1) - (cells.length : Int)) = ((b + xs[j].Label.toNat + 1 - cells.length : Nat) : Int) := by
        rw [w64 (n := ((b + xs[j].Label.toNat : Nat) : Int) + 1) (by omega) (by omega), w64 (by omega) (by omega)]; omega
      rw [hn, Int.toNat_natCast]
      have hnat : nat ((b + xs[j].Label.toNat + 1 - cells.length : Nat) : Int) = some ((b + xs[j].Label.toNat + 1 - cells.length : Nat) : Int) := by
        unfold nat; rw [if_pos (by omega)]
      rw [hnat, Option.bind_some, room_g (by omega) (by omega), Option.bind_some]
      exact hk6 _ (by simp; omega)
    · rw [if_neg (by rw [decide_eq_true_eq]; omega), if_neg h]
      exact hk6 _ (by omega))
  simp only [List.take_zero, List.take_length, show ((0 : Nat) : Int) = 0 from rfl] at hrun
  rw [show ([] : List TEdge).foldl (putE k b) cs = cs from rfl] at hrun
  rw [hrun]
  have hlen := puts_len (s := k) (b := b) (cells := cs) (l := xs)
  apply Loop_end
  rw [darray_Pack.b2, if_neg (by rw [decide_eq_true_eq]; omega)]
  congr 1
  unfold darray_Pack.k5
  rw [room_g (by omega) (by omega), Option.bind_some, if_neg (by rw [decide_eq_true_eq]; omega)]
  unfold darray_Pack.k3
  rw [w64s (by omega)]
theorem pack_base {g : TGraph} (hr : RightP g) {r : List Int × Int} {k : Nat} {bs : List Int} {cs : List Tdarray_cell} {xs : List TEdge} (hx : xs.length ≤ 256) (hc : cs.length ≤ 100000) (hbl : bs.length ≤ 100000) (hk : k ≤ 100000) :
    Loop (darray_Pack.b3 g r (k : Int) bs cs xs) 0 = some (.next (((k + 1 : Nat) : Int), bs ++ [(ff cs xs : Int)], xs.foldl (putE k (ff cs xs)) cs)) := by
  have hff := ff_le cs xs
  have hrun := Loop_int (b := darray_Pack.b3 g r (k : Int) bs cs xs) (i := 0) (n := ff cs xs) (Nat.zero_le _) (fun j _ hj => by
    rw [darray_Pack.b3, (fits_eq (A := ⟨g, bs, cs, r.1⟩) (by omega) (by omega)).2 (ff_first cs xs j hj), Option.bind_some, if_pos (by decide), w64s (by omega)])
  rw [show ((0 : Nat) : Int) = 0 from rfl] at hrun
  rw [hrun]
  apply Loop_end
  rw [darray_Pack.b3, (fits_eq (A := ⟨g, bs, cs, r.1⟩) (by omega) (by omega)).1 (ff_free cs xs), Option.bind_some, if_neg (by decide)]
  unfold darray_Pack.k4
  rw [pack_row hr hx hc hff hbl hk]
theorem Pack_eq {g : TGraph} (hr : RightP g) (hn : g.Final.length ≤ 60) : darray_Pack g = some (some (arrOf g), 0) := by
  have hs : Short g := fun xs hx => by
    obtain ⟨k, hk⟩ := List.getElem?_of_mem hx
    have := rise_256 (right_rises hr k)
    rw [getD_row hk] at this; omega
  have hel := hr.len
  have hrs := right_rises hr
  unfold darray_Pack
  rw [dawg_Count_eq hs hr, Option.bind_some, if_neg (by simp)]
  have hrun := Loop_run (b := darray_Pack.b4 g (counts (rowsOf g), 0)) (fun k => ((many g.Edges k : Int), (k : Int))) (i := 0) (n := g.Edges.length) (Nat.zero_le _) (fun j _ hj => by
    have hj1 : g.Edges[j]? = some g.Edges[j] := List.getElem?_eq_getElem hj
    have h1 := many_le hrs j
    have h2 := rise_256 (hrs j)
    rw [getD_row hj1] at h2
    show darray_Pack.b4 g _ ((many g.Edges j : Int), (j : Int)) = _
    rw [darray_Pack.b4, if_pos (by rw [decide_eq_true_eq]; omega), idx_nat, hj1, Option.bind_some, w64 (by omega) (by omega), w64s (by omega)]
    have : many g.Edges (j + 1) = many g.Edges j + g.Edges[j].length := by rw [many, getD_row hj1]
    rw [this]
    congr 3)
  have h0 : ((many g.Edges 0 : Nat) : Int) = 0 := rfl
  simp only [h0, show ((0 : Nat) : Int) = 0 from rfl] at hrun
  rw [hrun]
  have hm := many_le hrs g.Edges.length
  apply Loop_end
  rw [darray_Pack.b4, if_neg (by rw [decide_eq_true_eq]; omega)]
  congr 1
  unfold darray_Pack.k1
  rw [if_neg (by rw [Bool.or_eq_true, decide_eq_true_eq, decide_eq_true_eq]; omega)]
  have hrun2 := Loop_run (b := darray_Pack.b1 g (counts (rowsOf g), 0)) (fun k => ((k : Int), (packN g.Edges k).1, (packN g.Edges k).2)) (i := 0) (n := g.Edges.length) (Nat.zero_le _) (fun j _ hj => by
    have hj1 : g.Edges[j]? = some g.Edges[j] := List.getElem?_eq_getElem hj
    have inv := packN_inv hrs j
    have hfull := full_le g.Edges j
    have h2 := rise_256 (hrs j)
    have hsz := inv.size
    have hlen := inv.len
    show darray_Pack.b1 g _ ((j : Int), _, _) = _
    rw [darray_Pack.b1, if_pos (by rw [decide_eq_true_eq]; omega), idx_nat, hj1, Option.bind_some, pack_base hr (by rw [getD_row hj1] at h2; exact h2) (by omega) (by omega) (by omega)]
    rw [packN, getD_row hj1])
  rw [show ((0 : Int), ([] : List Int), ([] : List Tdarray_cell)) = (((0 : Nat) : Int), (packN g.Edges 0).1, (packN g.Edges 0).2) from rfl]
  rw [hrun2]
  apply Loop_end
  rw [darray_Pack.b1, if_neg (by rw [decide_eq_true_eq]; omega)]
  rfl
theorem Pack_bad {g : TGraph} (hs : Short g) (hr : ¬ RightP g) : darray_Pack g = some (none, 1) := by
  unfold darray_Pack
  rw [dawg_Count_bad hs hr]
  rfl
/-- A step of the array is one of the graph. -/
theorem Step_eq {g : TGraph} (hr : RightP g) (hn : g.Final.length ≤ 60) {s : Nat} (h : s < g.Final.length) (c : UInt8) : darray_Array_Step (arrOf g) (s : Int) c = some (match nextS g (s : Int) c with | some t => (t, true) | none => (0, false)) := by
  have hel := hr.len
  have inv := packN_inv (right_rises hr) g.Edges.length
  have hfull := full_le g.Edges g.Edges.length
  have hsz := inv.size
  have hbl : (arrOf g).base.length = g.Edges.length := inv.len
  obtain ⟨b, hb1, hb2⟩ := inv.base s (by omega)
  have hlt := c.toNat_lt
  have hx : g.Edges[s]? = some (g.Edges[s]'(by omega)) := List.getElem?_eq_getElem _
  have hat : IntKind.i64.wrap ((b : Int) + IntKind.i64.wrap (c.toNat : Int)) = ((b + c.toNat : Nat) : Int) := by
    rw [wlab, w64 (by omega) (by omega)]; omega
  have hbase : idx (arrOf g).base (s : Int) = some (b : Int) := by rw [idx_nat]; exact hb1
  have hnx : nextS g (s : Int) c = ((g.Edges[s]'(by omega)).find? (isLab c)).map TEdge.To := by
    unfold nextS; rw [Int.toNat_natCast, hx, Option.bind_some, at_find]
  unfold darray_Array_Step darray_Array_has
  rw [hbl, Option.bind_some, if_neg (by simp; omega), hbase, Option.bind_some, hat]
  have hcells : (arrOf g).cells = (packN g.Edges g.Edges.length).2 := rfl
  rw [hcells]
  generalize (packN g.Edges g.Edges.length).2 = cs at inv hsz ⊢
  have hrow := getD_row hx
  have wS : IntKind.i64.wrap ((s : Int) + 1) = (s : Int) + 1 := by rw [w64 (by omega) (by omega)]
  cases hf : (g.Edges[s]'(by omega)).find? (isLab c) with
  | some x =>
    have hm := List.mem_of_find?_eq_some hf
    have hlab := List.find?_some hf
    unfold isLab at hlab
    rw [beq_iff_eq] at hlab
    obtain ⟨b', g1, g2⟩ := inv.has s x (by omega) (by rw [hrow]; exact hm)
    have e : (b' : Int) = (b : Int) := by rw [hb1] at g1; injection g1 with g1; exact g1.symm
    have e' : b' = b := by omega
    subst e'
    rw [hlab] at g2
    have hin : b' + c.toNat < cs.length := by
      refine Classical.byContradiction fun h => ?_
      rw [lk_ge (by omega)] at g2
      have := congrArg Tdarray_cell.of g2
      simp [zC] at this; omega
    have hidx : idx cs ((b' + c.toNat : Nat) : Int) = some ⟨(s : Int) + 1, x.To⟩ := by rw [idx_nat, lk_some hin, g2]
    rw [hnx, hf, if_neg (by rw [decide_eq_true_eq]; omega), hidx, Option.bind_some, Option.bind_some, wS, if_neg (by simp), Option.bind_some]
    rfl
  | none =>
    rw [hnx, hf]
    by_cases hin : b + c.toNat < cs.length
    · have hne : (lk cs (b + c.toNat)).of ≠ (s : Int) + 1 := fun he => by
        rcases inv.from_ (b + c.toNat) with h0 | ⟨s', x, b', g1, g2, g3, g4, g5⟩
        · rw [h0] at he; simp [zC] at he; omega
        · rw [g5] at he
          have hs' : s' = s := by simp at he; omega
          subst hs'
          rw [hb1] at g3
          injection g3 with g3
          have hl : x.Label.toNat = c.toNat := by omega
          have hl2 : x.Label = c := UInt8.toNat_inj.1 hl
          rw [hrow] at g2
          rw [List.find?_eq_none] at hf
          exact hf x g2 (by unfold isLab; rw [hl2]; simp)
      have hidx : idx cs ((b + c.toNat : Nat) : Int) = some (lk cs (b + c.toNat)) := by rw [idx_nat, lk_some hin]
      rw [if_neg (by rw [decide_eq_true_eq]; omega), hidx, Option.bind_some, Option.bind_some, wS, if_pos (by simpa using hne)]
      rfl
    · rw [if_pos (by rw [decide_eq_true_eq]; omega), Option.bind_some, if_pos rfl]
      rfl
end
end Go.Val

/- part P43 -/
/- Plain lemmas: DarrayTight. -/
namespace Go.Val
set_option linter.unusedVariables false
theorem rise_ext : ∀ {a b : List UInt8}, a.Pairwise (fun x y => x.toNat < y.toNat) → b.Pairwise (fun x y => x.toNat < y.toNat) → (∀ x, x ∈ a ↔ x ∈ b) → a = b
  | [], [], _, _, _ => rfl
  | [], y :: b, _, _, h => by have := (h y).2 (by simp); simp at this
  | x :: a, [], _, _, h => by have := (h x).1 (by simp); simp at this
  | x :: a, y :: b, h1, h2, h => by
    have h1' := List.pairwise_cons.1 h1
    have h2' := List.pairwise_cons.1 h2
    have hxy : x = y := by
      rcases List.mem_cons.1 ((h x).1 (by simp)) with q | q
      · exact q
      · rcases List.mem_cons.1 ((h y).2 (by simp)) with r | r
        · exact r.symm
        · have := h1'.1 y r; have := h2'.1 x q; omega
    subst hxy
    rw [rise_ext h1'.2 h2'.2 fun z => ⟨fun hz => by
      rcases List.mem_cons.1 ((h z).1 (by simp [hz])) with q | q
      · subst q; have := h1'.1 z hz; omega
      · exact q, fun hz => by
      rcases List.mem_cons.1 ((h z).2 (by simp [hz])) with q | q
      · subst q; have := h2'.1 z hz; omega
      · exact q⟩]
def hit (xs : List TEdge) (c : UInt8) : Bool := (xs.find? (isLab c)).isSome
theorem hit_count {xs : List TEdge} (h : xs.Pairwise fun x y => x.Label.toNat < y.Label.toNat) : letters.countP (hit xs) = xs.length := by
  rw [List.countP_eq_length_filter]
  have e : letters.filter (hit xs) = xs.map TEdge.Label := by
    refine rise_ext (List.Pairwise.sublist List.filter_sublist letters_rise) (by rw [List.pairwise_map]; exact h) fun c => ?_
    rw [List.mem_filter, List.mem_map]
    unfold hit
    rw [List.find?_isSome]
    unfold isLab
    constructor
    · rintro ⟨_, x, hx, hl⟩
      rw [beq_iff_eq] at hl
      exact ⟨x, hx, hl⟩
    · rintro ⟨x, hx, hl⟩
      exact ⟨letters_mem c, x, hx, by rw [beq_iff_eq]; exact hl⟩
  rw [e, List.length_map]
theorem c8 {n : Nat} (hn : n < 256) : u8 (IntKind.u8.wrap (n : Int)) = UInt8.ofNat n := by
  unfold u8
  congr 1
  simp [IntKind.wrap, IntKind.signed, IntKind.bits]; omega
theorem next_find {g : TGraph} {s : Nat} {xs : List TEdge} (hx : g.Edges[s]? = some xs) (c : UInt8) : nextS g (s : Int) c = (xs.find? (isLab c)).map TEdge.To := by
  unfold nextS; rw [Int.toNat_natCast, hx, Option.bind_some, at_find]
theorem tight_row {g : TGraph} (hr : RightP g) (hn : g.Final.length ≤ 60) {s : Nat} {xs : List TEdge} (hx : g.Edges[s]? = some xs) : Loop (scansionlaw18_DarrayTight.b3 g (arrOf g) (s : Int)) ((0 : Int), (0 : Int)) = some (.next (0, ((s + 1 : Nat) : Int))) := by
  have hlt := (List.getElem?_eq_some_iff.1 hx).1
  have hel := hr.len
  have hrow := right_rises hr s
  rw [getD_row hx] at hrow
  have hrun := Loop_run (b := scansionlaw18_DarrayTight.b3 g (arrOf g) (s : Int)) (fun j => (-(((letters.take j).countP (hit xs) : Nat) : Int), (j : Int))) (i := 0) (n := 256) (Nat.zero_le _) (fun j _ hj => by
    have hcl : (letters.take j).countP (hit xs) ≤ j := Nat.le_trans List.countP_le_length (by rw [List.length_take]; omega)
    show scansionlaw18_DarrayTight.b3 g (arrOf g) (s : Int) (_, (j : Int)) = _
    rw [scansionlaw18_DarrayTight.b3, if_pos (by rw [decide_eq_true_eq]; omega), c8 hj, Step_eq hr hn (by omega), Option.bind_some, next_find hx, take_snoc (letters_at hj), List.countP_append]
    cases hf : xs.find? (isLab (UInt8.ofNat j)) with
    | none =>
      have hh : hit xs (UInt8.ofNat j) = false := by unfold hit; rw [hf]; rfl
      simp only [Option.map_none]
      rw [if_neg (by decide)]
      unfold scansionlaw18_DarrayTight.k5
      simp only [Bool.false_and]
      rw [if_neg (by decide), w64s (by omega)]
      simp [hh]
    | some x =>
      have hh : hit xs (UInt8.ofNat j) = true := by unfold hit; rw [hf]; rfl
      have hm := List.mem_of_find?_eq_some hf
      obtain ⟨k, hk⟩ := List.getElem?_of_mem hm
      have hok := row_ok hr (s := (s : Int)) (by omega) (by omega) (by rw [Int.toNat_natCast]; exact hx) hk
      simp only [Option.map_some]
      rw [if_pos trivial]
      unfold scansionlaw18_DarrayTight.k5
      simp only [Bool.true_and]
      rw [if_neg (by rw [Bool.or_eq_true, decide_eq_true_eq, decide_eq_true_eq]; omega), w64s (by omega), w64 (by omega) (by omega)]
      simp [hh]
      omega)
  simp only [List.take_zero, List.countP_nil, show ((0 : Nat) : Int) = 0 from rfl, show -(0 : Int) = 0 from rfl] at hrun
  rw [hrun, List.take_of_length_le (by rw [letters_len]; omega : letters.length ≤ 256), hit_count hrow]
  have h256 := rise_256 hrow
  apply Loop_end
  rw [scansionlaw18_DarrayTight.b3, if_neg (by decide)]
  congr 1
  unfold scansionlaw18_DarrayTight.k4 scansionlaw18_DarrayTight.k3
  rw [idx_nat, hx, Option.bind_some, w64 (by omega) (by omega), w64s (by omega)]
  congr 3
  omega
theorem DarrayTight_of (haw : scansionlaw18_awake = some true) (g : TGraph) : scansionlaw18_DarrayTight g = some true := by
  unfold scansionlaw18_DarrayTight
  obtain ⟨b, hb, hfew⟩ := Few_eq g 60 (by omega)
  rw [haw, Option.bind_some, show (60 : Int) = ((60 : Nat) : Int) from rfl, hb, Option.bind_some]
  cases b with
  | false => rfl
  | true =>
    obtain ⟨f1, f2, f3⟩ := hfew rfl
    have hs : Short g := fun xs hx => by have := f3 xs hx; omega
    rw [if_neg (by decide)]
    by_cases hr : RightP g
    · have hel := hr.len
      have hrs := right_rises hr
      rw [Pack_eq hr f1, Option.bind_some]
      dsimp only
      rw [if_neg (by decide)]
      have hrun := Loop_run (b := scansionlaw18_DarrayTight.b2 g (arrOf g)) (fun k => ((0 : Int), (k : Int))) (i := 0) (n := g.Edges.length) (Nat.zero_le _) (fun j _ hj => by
        have hj1 : g.Edges[j]? = some g.Edges[j] := List.getElem?_eq_getElem hj
        show scansionlaw18_DarrayTight.b2 g (arrOf g) (0, (j : Int)) = _
        rw [scansionlaw18_DarrayTight.b2, if_pos (by rw [decide_eq_true_eq]; omega), tight_row hr f1 hj1])
      simp only [show ((0 : Nat) : Int) = 0 from rfl] at hrun
      rw [hrun]
      apply Loop_end
      rw [scansionlaw18_DarrayTight.b2, if_neg (by rw [decide_eq_true_eq]; omega)]
      congr 1
      unfold scansionlaw18_DarrayTight.k1
      have hrun2 := Loop_run (b := scansionlaw18_DarrayTight.b1 g (arrOf g) 0) (fun k => ((many g.Edges k : Int), (k : Int))) (i := 0) (n := g.Edges.length) (Nat.zero_le _) (fun j _ hj => by
        have hj1 : g.Edges[j]? = some g.Edges[j] := List.getElem?_eq_getElem hj
        have h1 := many_le hrs j
        have h2 := rise_256 (hrs j)
        rw [getD_row hj1] at h2
        show scansionlaw18_DarrayTight.b1 g (arrOf g) 0 ((many g.Edges j : Int), (j : Int)) = _
        rw [scansionlaw18_DarrayTight.b1, if_pos (by rw [decide_eq_true_eq]; omega), idx_nat, hj1, Option.bind_some, w64 (by omega) (by omega), w64s (by omega)]
        have : many g.Edges (j + 1) = many g.Edges j + g.Edges[j].length := by rw [many, getD_row hj1]
        rw [this]
        congr 3)
      have h0 : ((many g.Edges 0 : Nat) : Int) = 0 := rfl
      simp only [h0, show ((0 : Nat) : Int) = 0 from rfl] at hrun2
      rw [hrun2]
      apply Loop_end
      rw [scansionlaw18_DarrayTight.b1, if_neg (by rw [decide_eq_true_eq]; omega)]
      congr 1
      have inv := packN_inv hrs g.Edges.length
      have hfull := full_le g.Edges g.Edges.length
      have hm := many_le hrs g.Edges.length
      have hsz := inv.size
      have hnz := nz_le (cells := (packN g.Edges g.Edges.length).2)
      rw [inv.taken] at hnz
      have hcells : (arrOf g).cells = (packN g.Edges g.Edges.length).2 := rfl
      unfold scansionlaw18_DarrayTight.k2 darray_Array_Cells
      rw [if_pos (by decide), hcells, Option.bind_some]
      have hmx : mx (many g.Edges g.Edges.length : Int) 1 = ((max (many g.Edges g.Edges.length) 1 : Nat) : Int) := by
        unfold mx; split <;> omega
      rw [hmx, w64 (by omega) (by omega), if_pos (by rw [decide_eq_true_eq]; omega), Option.bind_some, Option.bind_some, decide_eq_true (by omega)]
    · rw [Pack_bad hs hr, Option.bind_some]
      rfl
end Go.Val

/- part P44 -/
/- Plain lemmas: Prefixes; the two words of 'awake'; DarraySteps. -/
namespace Go.Val
set_option linter.unusedVariables false
theorem Final_eq {g : TGraph} (hr : RightP g) {s : Int} (h0 : 0 ≤ s) (h1 : s < g.Final.length) : darray_Array_Final (arrOf g) s = some ((g.Final[s.toNat]?).getD false) := by
  have hel := hr.len
  have inv := packN_inv (right_rises hr) g.Edges.length
  have hbl : (arrOf g).base.length = g.Edges.length := inv.len
  obtain ⟨b, hb1, hb2⟩ := final_at h0 h1
  unfold darray_Array_Final darray_Array_has
  rw [hbl, Option.bind_some, if_pos (by simp; omega)]
  have : (arrOf g).graph = g := rfl
  rw [this, hb1, Option.bind_some, Option.bind_some, hb2]
  rfl
theorem Start_eq {g : TGraph} (hr : RightP g) : darray_Array_Start (arrOf g) = some ((g.Final.length : Int) - 1) := by
  have hel := hr.len
  have inv := packN_inv (right_rises hr) g.Edges.length
  have hbl : (arrOf g).base.length = g.Edges.length := inv.len
  unfold darray_Array_Start
  rw [hbl, hel, start_w hr]
theorem Words_eq {g : TGraph} (hr : RightP g) : darray_Array_Words (arrOf g) = some ((counts (rowsOf g)).getD (g.Final.length - 1) 0) := by
  have hlo := hr.lo
  have hlen : (counts (rowsOf g)).length = g.Final.length := by rw [counts_len, rows_len hr.len]
  have hc : (arrOf g).count = counts (rowsOf g) := rfl
  unfold darray_Array_Words
  rw [hc, hlen, start_w hr, cnt_at hr (by omega) (by omega), Option.bind_some]
  rw [show ((g.Final.length : Int) - 1).toNat = g.Final.length - 1 by omega]
/-- The beginnings of a text that are words. -/
def prefS (g : TGraph) (b : Str) (n : Nat) : List Int := ((List.range n).filter fun k => hasS g (b.take k)).map fun k : Nat => (k : Int)
theorem prefS_succ {g : TGraph} {b : Str} {n : Nat} : prefS g b (n + 1) = prefS g b n ++ (if hasS g (b.take n) then [(n : Int)] else []) := by
  unfold prefS
  rw [List.range_succ, List.filter_append, List.map_append]
  cases h : hasS g (b.take n) <;> simp [List.filter, h]
theorem prefS_len {g : TGraph} {b : Str} {n : Nat} : (prefS g b n).length ≤ n := by
  unfold prefS
  rw [List.length_map]
  exact Nat.le_trans (List.length_filter_le _ _) (by simp)
theorem hasS_at {g : TGraph} {w : Str} {t : Int} (h : runS g ((g.Final.length : Int) - 1) w = some t) : hasS g w = (g.Final[t.toNat]?).getD false := by
  unfold hasS; rw [h]; rfl
theorem pref_step {g : TGraph} (hr : RightP g) (hn : g.Final.length ≤ 60) {b : Str} (hb : b.length ≤ 2000) {n : Nat} (h : n ≤ b.length) {t : Int} (ht : runS g ((g.Final.length : Int) - 1) (b.take n) = some t) :
    darray_Array_Prefixes.b1 (arrOf g) b (prefS g b n, t, true, (n : Int)) = darray_Array_Prefixes.k2 (arrOf g) b t (n : Int) (prefS g b (n + 1)) := by
  have hb1 := runS_ok hr (by have := hr.lo; omega) (by omega) ht
  have hl := prefS_len (g := g) (b := b) (n := n)
  rw [darray_Array_Prefixes.b1, if_pos rfl, Final_eq hr hb1.1 hb1.2, Option.bind_some, prefS_succ, ← hasS_at ht]
  cases hasS g (b.take n) with
  | false => rw [if_neg (by decide), if_neg (by decide), List.append_nil]
  | true => rw [if_pos rfl, if_pos rfl, room_g (by omega) (by omega), Option.bind_some]
theorem pref_next {g : TGraph} (hr : RightP g) (hn : g.Final.length ≤ 60) {b : Str} (hb : b.length ≤ 2000) {n : Nat} (h : n < b.length) {t : Int} {c : UInt8} (hc : b[n]? = some c) (h0 : 0 ≤ t) (h1 : t < g.Final.length) (out : List Int) :
    darray_Array_Prefixes.k2 (arrOf g) b t (n : Int) out = some (.next (match nextS g t c with | some u => (out, u, true, ((n + 1 : Nat) : Int)) | none => (out, 0, false, ((n + 1 : Nat) : Int)))) := by
  have hs := Step_eq hr hn (s := t.toNat) (by omega) c
  rw [show ((t.toNat : Nat) : Int) = t by omega] at hs
  unfold darray_Array_Prefixes.k2
  rw [if_neg (by rw [beq_iff_eq]; omega), idx_nat, hc, Option.bind_some, hs, Option.bind_some, w64s (by omega)]
  cases nextS g t c <;> rfl
theorem Prefixes_eq {g : TGraph} (hr : RightP g) (hn : g.Final.length ≤ 60) {b : Str} (hb : b.length ≤ 2000) : darray_Array_Prefixes (arrOf g) b = some (prefS g b (b.length + 1)) := by
  have hst0 : 0 ≤ (g.Final.length : Int) - 1 := by have := hr.lo; omega
  have hst1 : (g.Final.length : Int) - 1 < g.Final.length := by omega
  unfold darray_Array_Prefixes
  rw [Start_eq hr, Option.bind_some]
  rcases run_split g ((g.Final.length : Int) - 1) b with hall | ⟨k, t, c, hk, hc, hpre, ht, hnx⟩
  · have hrun := Loop_run (b := darray_Array_Prefixes.b1 (arrOf g) b) (fun n => (prefS g b n, (runS g ((g.Final.length : Int) - 1) (b.take n)).getD 0, true, (n : Int))) (i := 0) (n := b.length) (Nat.zero_le _) (fun n _ hlt => by
      obtain ⟨t, ht⟩ := hall n (by omega)
      obtain ⟨u, hu⟩ := hall (n + 1) (by omega)
      have hc : b[n]? = some b[n] := List.getElem?_eq_getElem hlt
      have hnx : nextS g t b[n] = some u := by rw [run_take_next hc, ht] at hu; exact hu
      have hb1 := runS_ok hr hst0 hst1 ht
      simp only [ht, hu, Option.getD_some]
      rw [pref_step hr hn hb (by omega) ht, pref_next hr hn hb hlt hc hb1.1 hb1.2, hnx])
    simp only [List.take_zero, runS, Option.getD_some, show ((0 : Nat) : Int) = 0 from rfl] at hrun
    rw [show prefS g b 0 = [] from rfl] at hrun
    rw [hrun]
    obtain ⟨t, ht⟩ := hall b.length (Nat.le_refl _)
    apply Loop_done
    rw [ht, Option.getD_some, pref_step hr hn hb (Nat.le_refl _) ht]
    unfold darray_Array_Prefixes.k2 darray_Array_Prefixes.k1
    rw [if_pos (by rw [beq_iff_eq])]
    rfl
  · have hrun := Loop_run (b := darray_Array_Prefixes.b1 (arrOf g) b) (fun n => (prefS g b n, (runS g ((g.Final.length : Int) - 1) (b.take n)).getD 0, true, (n : Int))) (i := 0) (n := k) (Nat.zero_le _) (fun n _ hlt => by
      obtain ⟨t, ht⟩ := hpre n (by omega)
      obtain ⟨u, hu⟩ := hpre (n + 1) (by omega)
      have hc : b[n]? = some (b[n]'(by omega)) := List.getElem?_eq_getElem _
      have hnx : nextS g t (b[n]'(by omega)) = some u := by rw [run_take_next hc, ht] at hu; exact hu
      have hb1 := runS_ok hr hst0 hst1 ht
      simp only [ht, hu, Option.getD_some]
      rw [pref_step hr hn hb (by omega) ht, pref_next hr hn hb (by omega) hc hb1.1 hb1.2, hnx])
    simp only [List.take_zero, runS, Option.getD_some, show ((0 : Nat) : Int) = 0 from rfl, ht] at hrun
    rw [show prefS g b 0 = [] from rfl] at hrun
    rw [hrun]
    have hb1 := runS_ok hr hst0 hst1 ht
    rw [Loop_next (by rw [pref_step hr hn hb (by omega) ht, pref_next hr hn hb hk hc hb1.1 hb1.2, hnx])]
    apply Loop_done
    rw [darray_Array_Prefixes.b1, if_neg (by decide)]
    have h1 : runS g ((g.Final.length : Int) - 1) (b.take (k + 1)) = none := by rw [run_take_next hc, ht]; exact hnx
    have hend : ∀ d, k + 1 + d ≤ b.length + 1 → prefS g b (k + 1 + d) = prefS g b (k + 1) := by
      intro d
      induction d with
      | zero => intro _; rfl
      | succ d ih =>
        intro hd
        rw [← Nat.add_assoc, prefS_succ, ih (by omega)]
        have : hasS g (b.take (k + 1 + d)) = false := by unfold hasS; rw [run_take_none h1 _ (by omega)]; rfl
        rw [this]; simp
    have := hend (b.length - k) (by omega)
    rw [show k + 1 + (b.length - k) = b.length + 1 by omega] at this
    rw [this]; rfl
theorem riseAB : RiseP [wA, wB] := ⟨fun s hs => by
  simp at hs
  rcases hs with rfl | rfl <;> decide, fun i h0 hi a b ha hb => by
  simp at hi
  obtain rfl : i = 1 := by omega
  simp at ha hb
  subst ha; subst hb
  decide⟩
theorem tabAB : graphT (tabW [wA, wB]) = bH.Graph := by
  have h1 := Build_eq riseAB (by simp)
  rw [Build2] at h1
  injection h1 with h1
  exact (congrArg Prod.fst h1).symm
theorem awake18 : scansionlaw18_awake = some true := by
  unfold scansionlaw18_awake
  rw [show ([([97, 98] : Str), ([99, 98] : Str)]) = [wA, wB] from rfl, refBuild_eq riseAB (by simp), tabAB, Option.bind_some]
  dsimp only
  have hf : bH.Graph.Final.length = 3 := rfl
  rw [Pack_eq right2 (by rw [hf]; omega), Option.bind_some]
  dsimp only
  rw [if_pos (by decide), Start_eq right2, Option.bind_some, hf, if_pos (by decide), Words_eq right2, Option.bind_some, hf]
  have hc : (counts (rowsOf bH.Graph)).getD (3 - 1) 0 = 2 := by decide
  have hu : [u8 97, u8 98, u8 99] = ([97, 98, 99] : Str) := by decide
  rw [hc, if_pos (by decide), hu, Prefixes_eq right2 (by rw [hf]; omega) (by simp), Option.bind_some]
  have hp : prefS bH.Graph [97, 98, 99] (([97, 98, 99] : Str).length + 1) = [2] := by decide
  rw [hp, Same_ok (by simp)]
  rfl
end Go.Val
