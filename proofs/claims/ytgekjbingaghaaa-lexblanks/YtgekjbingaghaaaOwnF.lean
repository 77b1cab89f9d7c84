/- A value semantics of the model's programs, sound against it, and functions read off the given program with the proofs that it runs so; no condition. -/
import Derived.Test.YtgekjbingaghaaaOwnE
set_option linter.all false
set_option linter.unnecessarySimpa false
set_option linter.unusedVariables false
set_option linter.unusedSimpArgs false
/- part Q37 -/
/- Plain lemmas: the law of blanks. -/
namespace Go.Val
set_option linter.unusedVariables false
set_option linter.unusedSimpArgs false
noncomputable section
variable {us : List TUnit} {b t c : List UInt8} {o : List (List UInt8)} {r1 : List TToken × Int × Int}
/-- A text that begins with these tokens. -/
def Inv (c : List UInt8) (D : List Con) : Prop := (∀ n ∈ sg c, n ≠ -2) ∧ ∀ R, cons7 (blkC false (sg c ++ R)) = (cons7 (blkC false R)).map fun l => D ++ l
theorem inv_nil : Inv [] [] := ⟨by simp [sg, units, uUnits], fun R => by
  show cons7 (blkC false R) = _
  cases cons7 (blkC false R) <;> rfl⟩
theorem inv_skip {D : List Con} {B : List UInt8} (h : Inv c D) (hB : Skip B) : Inv (c ++ B) D := by
  unfold Inv
  rw [sg_app h.1]
  refine ⟨fun n hn => ?_, fun R => by rw [List.append_assoc, h.2, hB.2]⟩
  rcases List.mem_append.1 hn with hn | hn
  · exact h.1 n hn
  · exact hB.1 n hn
theorem inv_piece {D : List Con} {P : List UInt8} {x : Con} (h : Inv c D) (h1 : ∀ n ∈ sg P, n ≠ -2) (h2 : ∀ R, cons7 (blkC false (sg P ++ 10 :: R)) = (cons7 (blkC false R)).map fun l => x :: l) : Inv (c ++ (P ++ [10])) (D ++ [x]) := by
  unfold Inv
  rw [sg_app h.1, sg_app h1, sg10]
  refine ⟨fun n hn => ?_, fun R => ?_⟩
  · rcases List.mem_append.1 hn with hn | hn
    · exact h.1 n hn
    · rcases List.mem_append.1 hn with hn | hn
      · exact h1 n hn
      · rw [List.mem_singleton.1 hn]; decide
  · rw [List.append_assoc, h.2, List.append_assoc, List.singleton_append, h2]
    cases cons7 (blkC false R) with
    | none => rfl
    | some l => simp
theorem bl_in {v6 : Int} {xs : List UInt8} (hxs : xs.length ≤ 50) : ∀ (d i : Nat) (v : List UInt8), i + d = xs.length → v.length + d ≤ 100000 → ∃ B, Skip B ∧ B.length = d ∧ Loop (scansionlaw07_LexBlanks.b3 t r1 v6 xs) (v, (i : Int)) = scansionlaw07_LexBlanks.k5 t r1 v6 (v ++ B)
  | 0, i, v, hi, hv => ⟨[], skip_nil, rfl, by
      refine Loop_end ?_
      simp only [scansionlaw07_LexBlanks.b3]
      rw [if_neg (by simp; omega), List.append_nil]⟩
  | d + 1, i, v, hi, hv => by
    have hlt : i < xs.length := by omega
    obtain ⟨ch, h1, h2, h3⟩ := blank_byte xs[i]
    obtain ⟨B, g1, g2, g3⟩ := bl_in hxs d (i + 1) (v ++ [ch]) (by omega) (by simp; omega)
    refine ⟨[ch] ++ B, skip_app (skip_one h2 h3) g1, by simp; omega, ?_⟩
    have hs : scansionlaw07_LexBlanks.b3 t r1 v6 xs (v, (i : Int)) = some (.next (v ++ [ch], ((i + 1 : Nat) : Int))) := by
      simp only [scansionlaw07_LexBlanks.b3]
      rw [if_pos (by simpa using hlt), idx_nat, List.getElem?_eq_getElem hlt]
      simp only [Option.bind_some]
      rw [h1, Option.bind_some, room_ok (by omega), w64s (by omega)]; rfl
    rw [Loop_next hs, g3, List.append_assoc]
theorem bl_head {i : Nat} (hi : i < r1.1.length) (hc : c.length ≤ 90000) (ho : o.length ≤ 100) :
    scansionlaw07_LexBlanks.b2 t o r1 (c, (i : Int)) = some (.done true) ∨ ∃ B, Skip B ∧ B.length ≤ 55 ∧ scansionlaw07_LexBlanks.b2 t o r1 (c, (i : Int)) = scansionlaw07_LexBlanks.k4 t r1 i (c ++ B) := by
  by_cases hio : i < o.length
  · have e : scansionlaw07_LexBlanks.b2 t o r1 (c, (i : Int)) = if (decide ((o[i].length : Int) > (50 : Int))) then some (.done true) else Loop (scansionlaw07_LexBlanks.b3 t r1 i o[i]) (c, (0 : Int)) := by
      simp only [scansionlaw07_LexBlanks.b2]
      rw [if_pos (by simpa using hi), if_pos (by simpa using hio), idx_nat, List.getElem?_eq_getElem hio]; rfl
    by_cases h50 : o[i].length > 50
    · left; rw [e, if_pos (by simp; omega)]
    · right
      rw [e, if_neg (by simp; omega)]
      obtain ⟨B, g1, g2, g3⟩ := bl_in (t := t) (r1 := r1) (v6 := (i : Int)) (xs := o[i]) (by omega) o[i].length 0 c (by omega) (by omega)
      refine ⟨B ++ [35, 91, 32, 97, 10], skip_app g1 skip_note, by simp; omega, ?_⟩
      have g3' : Loop (scansionlaw07_LexBlanks.b3 t r1 (i : Int) o[i]) (c, (0 : Int)) = _ := g3
      rw [g3']
      unfold scansionlaw07_LexBlanks.k5
      rw [room_ok (by simp; omega), ← List.append_assoc]; rfl
  · right
    refine ⟨[], skip_nil, by simp, ?_⟩
    rw [List.append_nil]
    simp only [scansionlaw07_LexBlanks.b2]
    rw [if_pos (by simpa using hi), if_neg (by simp; omega)]
theorem rising : ∀ {ts : List TToken} {a : Int}, Chain b a ts → ∀ {j : Nat} {x y : TToken}, (ts ++ [⟨4, b.length, [], []⟩])[j]? = some x → (ts ++ [⟨4, b.length, [], []⟩])[j + 1]? = some y → x.At < y.At
  | [], a, h, j, x, y, hx, hy => by simp at hy
  | t :: l, a, h, j, x, y, hx, hy => by
    obtain ⟨_, _, _, _, _, _, _, h8⟩ := h
    cases j with
    | zero =>
      simp at hx
      subst hx
      cases l with
      | nil =>
        simp at hy
        subst hy
        have h9 : t.At + max (t.Text.length : Int) 1 ≤ b.length := h8
        simp only
        omega
      | cons t2 l =>
        simp at hy
        subst hy
        have := h8.1
        omega
    | succ j => exact rising h8 (j := j) (by simpa using hx) (by simpa using hy)
theorem Tk_rise (hl : b.length ≤ 1048576) (he : (Tk b).2.2 = 0) {j : Nat} {x y : TToken} (hx : (Tk b).1[j]? = some x) (hy : (Tk b).1[j + 1]? = some y) : x.At < y.At := by
  cases e : tkS b (b.length + 1) (blk false (units b)) with
  | err c r =>
    have hul := (from_all b).len
    have hlb := blk_len (units b)
    obtain ⟨_, _, hc0⟩ := tkS_err hl _ (blk_suf false (units b)) (by omega) e
    have hTk : Tk b = ([], atU b.length r, c) := by unfold Tk; rw [e]
    rw [hTk] at he
    exact absurd he hc0
  | ok ts r =>
    have hTk : Tk b = (ts ++ [⟨4, b.length, [], []⟩], 0, 0) := by unfold Tk; rw [e]
    rw [hTk] at hx hy
    have hc := chain_ok hl _ (blk_suf false (units b)) e (a := 0) (by
      obtain ⟨p, _, hap⟩ := at_suf (blk_suf false (units b)); rw [hap]; omega)
    exact rising hc hx hy
theorem bl_last {LA : List (Con × Nat)} (hr1 : r1 = (LA.map (mkT t) ++ [⟨4, t.length, [], []⟩], 0, 0)) (hn : ∀ x ∈ r1.1, Norm x.Set) (hLA : LA.length ≤ 1000) (hc : c.length ≤ 65536) (hi : Inv c (LA.map Prod.fst)) :
    scansionlaw07_LexBlanks.k1 r1 c = some true := by
  unfold scansionlaw07_LexBlanks.k1
  rw [Tokens_eq hc, Option.bind_some]
  have hcon := hi.2 []
  rw [List.append_nil] at hcon
  have hc0 : cons7 (blkC false []) = some [] := rfl
  rw [hc0, Option.map_some, List.append_nil] at hcon
  obtain ⟨m1, m2⟩ := Tk_norm (b := c) (by omega)
  rcases Tk_A (b := c) (by omega) with ⟨LC, h1, h2⟩ | ⟨h, _⟩
  · unfold cons7 at hcon
    rw [h1] at hcon
    simp only [Option.map_some, Option.some.injEq] at hcon
    have hlen : LC.length = LA.length := by have := congrArg List.length hcon; simpa using this
    have hconE : (Tk c).1.map con = r1.1.map con := by
      have e : ∀ b : List UInt8, con ∘ mkT b = Prod.fst := fun b => rfl
      rw [h2, hr1]
      simp only [List.map_append, List.map_map, e, hcon]; rfl
    have he : (Tk c).2.2 = 0 := by rw [h2]
    have hl1 : r1.1.length = LA.length + 1 := by rw [hr1]; simp
    have hl2 : (Tk c).1.length = LA.length + 1 := by rw [h2]; simp [hlen]
    rw [if_neg (by simp [he, hl1, hl2])]
    have hit : ∀ (j : Nat) (hj : j < r1.1.length), scansionlaw07_LexBlanks.b1 r1 (Tk c) (j : Int) = some (.next ((j + 1 : Nat) : Int)) := fun j hj => by
      have hx : (Tk c).1[j]? = some ((Tk c).1[j]'(by omega)) := List.getElem?_eq_getElem (by omega)
      have hy : r1.1[j]? = some r1.1[j] := List.getElem?_eq_getElem hj
      have hxy : con ((Tk c).1[j]'(by omega)) = con r1.1[j] := by
        have := congrArg (fun l : List Con => l[j]?) hconE
        simp only [List.getElem?_map, hx, hy, Option.map_some, Option.some.injEq] at this
        exact this
      have hnx := (m1 _ (List.getElem_mem (show j < (Tk c).1.length by omega))).len
      simp only [con, Prod.mk.injEq] at hxy
      simp only [scansionlaw07_LexBlanks.b1]
      rw [if_pos (by simpa using hj), idx_nat, hx, Option.bind_some, idx_nat, hy, Option.bind_some, Same_eq (by omega), Option.bind_some, w64s (by omega)]
      rw [if_neg (by simp [hxy.1]), if_neg (by simp [hxy.2.1]), if_neg (by simp [hxy.2.2])]
      by_cases h0 : j = 0
      · subst h0
        rw [if_neg (by simp)]; rfl
      · rw [if_pos (by simp; omega)]
        have hw : IntKind.i64.wrap ((j : Int) - 1) = ((j - 1 : Nat) : Int) := by rw [w64 (by omega) (by omega)]; omega
        have hz : (Tk c).1[j - 1]? = some ((Tk c).1[j - 1]'(by omega)) := List.getElem?_eq_getElem (by omega)
        have hlt := Tk_rise (by omega) he hz (by rw [show j - 1 + 1 = j by omega]; exact hx)
        rw [hw, idx_nat, hz, Option.bind_some]
        have hd : decide (((Tk c).1[j]'(by omega)).At ≤ ((Tk c).1[j - 1]'(by omega)).At) = false := by simp; omega
        rw [hd]; rfl
    have hend : scansionlaw07_LexBlanks.b1 r1 (Tk c) ((r1.1.length : Nat) : Int) = some (.done true) := by
      simp only [scansionlaw07_LexBlanks.b1]
      rw [if_neg (by simp)]; rfl
    generalize scansionlaw07_LexBlanks.b1 r1 (Tk c) = B at hit hend ⊢
    exact (Loop_all0 (b := B) (fun _ => True) r1.1.length (r := false) (R := true) (fun j hj _ => hit j hj) (fun j hj hp => absurd trivial hp) hend).1 fun _ _ => trivial
  · unfold cons7 at hcon
    rw [h] at hcon; cases hcon
theorem bl_loop (ht : t.length ≤ 500) (ho : o.length ≤ 100) {LA : List (Con × Nat)} (hr1 : r1 = (LA.map (mkT t) ++ [⟨4, t.length, [], []⟩], 0, 0)) (hn : ∀ x ∈ r1.1, Norm x.Set) (hLA : LA.length ≤ 500) :
    ∀ (k : Nat) {us : List TUnit}, us.length ≤ k → us <:+ units t → ∀ {L : List (Con × Nat)}, tksA (us.map su) = some L → ∀ {pre : List (Con × Nat)} {c : List UInt8}, LA = pre ++ L → Inv c (pre.map Prod.fst) → (c.length : Int) ≤ 60 * (pre.length : Int) + atU t.length us →
    Loop (scansionlaw07_LexBlanks.b2 t o r1) (c, (pre.length : Int)) = some true
  | k, [], _, h, L, e, pre, c, hL, hi, hc => by
    rw [show ([] : List TUnit).map su = [] from rfl, tksA_nil] at e
    cases e
    rw [List.append_nil] at hL
    subst hL
    have hl1 : r1.1.length = LA.length + 1 := by rw [hr1]; simp
    have hc' : (c.length : Int) ≤ 60 * (LA.length : Int) + t.length := hc
    rcases bl_head (t := t) (o := o) (r1 := r1) (c := c) (i := LA.length) (by omega) (by omega) ho with h1 | ⟨B, g1, g2, g3⟩
    · exact Loop_done h1
    · have hs : scansionlaw07_LexBlanks.b2 t o r1 (c, (LA.length : Int)) = some (.next (c ++ B ++ [32], ((LA.length + 1 : Nat) : Int))) := by
        rw [g3]
        unfold scansionlaw07_LexBlanks.k4
        rw [room_ok (by simp; omega), Option.bind_some, w64s (by omega), if_neg (by simp; omega)]
        unfold scansionlaw07_LexBlanks.k3
        rw [w64s (by omega)]; rfl
      rw [Loop_next hs]
      refine Loop_end ?_
      simp only [scansionlaw07_LexBlanks.b2]
      rw [if_neg (by simp; omega), ← bl_last hr1 hn (by omega) (c := c ++ B ++ [32]) (by simp; omega) (inv_skip (inv_skip hi g1) (skip_one (by decide) (by decide)))]
  | 0, u :: us, hk, _, _, _, _, _, _, _, _ => by simp at hk
  | k + 1, u :: us, hk, h, L, e, pre, c, hL, hi, hc => by
    obtain ⟨x, L', vs, rfl, q1, q2, q3, q4, q5, q6⟩ := piece_of (b := t) (by omega) h (by simp) e
    obtain ⟨a, hfa, hata⟩ := at_suf h
    obtain ⟨a', hfa', hata'⟩ := at_suf (q1.trans h)
    have hle := hfa.mono q1 hfa'
    have hle' := hfa'.le
    have hl1 : r1.1.length = LA.length + 1 := by rw [hr1]; simp
    have hl2 : LA.length = pre.length + (L'.length + 1) := by rw [hL]; simp
    rw [hata] at hc
    rcases bl_head (t := t) (o := o) (r1 := r1) (c := c) (i := pre.length) (by omega) (by omega) ho with h1 | ⟨B, g1, g2, g3⟩
    · exact Loop_done h1
    · have hx : r1.1[pre.length]? = some (mkT t x) := by rw [hr1, hL]; simp
      have hxa : (mkT t x).At = a := by
        unfold mkT
        simp only
        rw [q4, posU_suf h, hata]
      have hy : ∃ y, r1.1[pre.length + 1]? = some y ∧ y.At = a' := by
        cases L' with
        | nil =>
          refine ⟨⟨4, t.length, [], []⟩, by rw [hr1, hL]; simp, ?_⟩
          have hvs : vs = [] := by
            cases vs with
            | nil => rfl
            | cons v vs =>
              exfalso
              obtain ⟨_, _, _, hh, _⟩ := piece_of (b := t) (by omega) (q1.trans h) (by simp) q3
              cases hh
          rw [hvs] at hata'
          exact hata'
        | cons y L' =>
          refine ⟨mkT t y, by rw [hr1, hL]; simp, ?_⟩
          have hne : vs ≠ [] := fun hh => by rw [hh] at q3; cases q3
          obtain ⟨y', _, _, hh, _, _, _, hy2, _⟩ := piece_of (b := t) (by omega) (q1.trans h) hne q3
          cases hh
          unfold mkT
          simp only
          rw [hy2, posU_suf (q1.trans h), hata']
      obtain ⟨y, hy1, hy2⟩ := hy
      rw [hata, hata'] at q5 q6
      have hlp := cutB_len (b := t) hle hle'
      have hs : scansionlaw07_LexBlanks.b2 t o r1 (c, (pre.length : Int)) = some (.next (c ++ B ++ [32] ++ (cutB t a a' ++ [10]), (((pre ++ [x]).length : Nat) : Int))) := by
        rw [g3]
        unfold scansionlaw07_LexBlanks.k4
        rw [room_ok (by simp; omega), Option.bind_some, w64s (by omega), if_pos (by simp; omega)]
        rw [idx_nat, hx, Option.bind_some, idx_nat, hy1, Option.bind_some, hxa, hy2, cut_ok hle hle', Option.bind_some]
        have ecut : List.drop (Int.toNat (a : Int)) (List.take (Int.toNat (a' : Int)) t) = cutB t a a' := rfl
        rw [ecut, room_ok (by rw [hlp]; simp; omega), room_ok (by rw [hlp]; simp; omega)]
        simp only [Option.bind_some]
        unfold scansionlaw07_LexBlanks.k3
        rw [w64s (by omega), List.append_assoc (c ++ B ++ [u8 32])]
        simp only [List.length_append, List.length_singleton]
        rfl
      rw [Loop_next hs]
      refine bl_loop ht ho hr1 hn hLA k (us := vs) (by simp at hk q2; omega) (q1.trans h) q3 (pre := pre ++ [x]) (by rw [hL]; simp) ?_ ?_
      · rw [List.map_append]
        exact inv_piece (inv_skip (inv_skip hi g1) (skip_one (by decide) (by decide))) q5 q6
      · rw [hata']
        simp only [List.length_append, hlp, List.length_singleton]
        omega
theorem LexBlanks_of (t : List UInt8) (o : List (List UInt8)) : scansionlaw07_LexBlanks t o = some true := by
  unfold scansionlaw07_LexBlanks
  rw [awake7, Option.bind_some]
  by_cases hlen : t.length > 500 ∨ o.length > 100
  · rw [if_pos (by simp; omega)]
  · rw [if_neg (by simp; omega), Tokens_eq (by omega), Option.bind_some]
    obtain ⟨n1, n2⟩ := Tk_norm (b := t) (by omega)
    rcases Tk_A (b := t) (by omega) with ⟨LA, h1, h2⟩ | ⟨_, h⟩
    · rw [if_neg (by rw [h2]; simp)]
      unfold sg at h1
      rw [← blkC_eq] at h1
      have hl : LA.length ≤ 500 := by rw [h2] at n2; simp at n2; omega
      exact bl_loop (by omega) (by omega) h2 n1 hl _ (Nat.le_refl _) (blk_suf false (units t)) h1 (pre := []) rfl inv_nil (by
        obtain ⟨p, _, hap⟩ := at_suf (blk_suf false (units t)); rw [hap]; simp)
    · rw [if_pos (by simpa using h)]
end
end Go.Val
